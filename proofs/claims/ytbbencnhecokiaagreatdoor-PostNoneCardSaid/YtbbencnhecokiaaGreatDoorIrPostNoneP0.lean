/-
  The abstract machine's text of the functions that PostNone reaches, and: it is the loaded program's. Then the functions without temporaries.
-/
import Derived.Test.YtbbencnhecokiaaGreatDoorProg
import Derived.Test.YtbbencnhecokiaaGreatDoorMxT
import Derived.Test.YtbbencnhecokiaaGreatDoorMxU
import Derived.Test.YtbbencnhecokiaaGreatDoorMxV
import Derived.Test.YtbbencnhecokiaaGreatDoorMxX
namespace Go.Proofs.YtbbencnhecokiaaGreatDoor.IrPostNone
open Go Mx
set_option maxRecDepth 100000
set_option linter.unusedVariables false
/-! cableway/cablewaylaw32.PostNone -/
def rs4 : List RV := [(.t 4)]
def o4_1 : List IOp := [⟨some 62, .pu (.pick (.t 57) (.t 61) (.c (.b false))), none⟩, ⟨some 4, .pu (.mov (.t 62)), none⟩] ++ []
def o4_2 : List IOp := [⟨some 58, .pu (.bld [(.i .i64 0), (.i .i64 0)] [(1, 1, (.c (.i .i64 2)))]), some (57, true)⟩, ⟨some 59, .al (.mks 16 [(.i .i64 0), (.i .i64 0)] (.c (.i .i64 1))), some (57, true)⟩, ⟨some 60, .ef (.call 27 [(.c (.p none)), (.t 58), (.t 59)]), some (57, true)⟩, ⟨some 61, .pu (.eqz false .p (.t 60) (.c (.p none))), some (57, true)⟩] ++ o4_1
def o4_3 : List IOp := [⟨some 56, .pu (.pick (.t 42) (.t 55) (.c (.b false))), none⟩, ⟨some 57, .pu (.mov (.t 56)), none⟩] ++ o4_2
def o4_4 : List IOp := [⟨some 54, .pu (.pick (.t 51) (.t 53) (.c (.b false))), some (42, true)⟩, ⟨some 55, .pu (.eqz false .b (.t 48) (.t 54)), some (42, true)⟩] ++ o4_3
def o4_5 : List IOp := [⟨some 52, .pu (.mov (.t 7)), some (51, true)⟩, ⟨some 53, .pu (.bin .leq (.t 52) (.c (.i .i64 4))), some (51, true)⟩] ++ o4_4
def o4_6 : List IOp := [⟨some 43, .pu (.mov (.t 8)), some (42, true)⟩, ⟨some 44, .pu (.bld [(.i .i64 0), (.i .i64 0)] [(1, 1, (.c (.i .i64 2)))]), some (42, true)⟩, ⟨some 45, .pu (.mov (.t 7)), some (42, true)⟩, ⟨some 46, .al (.mks 16 [(.i .i64 0), (.i .i64 0)] (.t 45)), some (42, true)⟩, ⟨some 47, .ef (.call 27 [(.t 43), (.t 44), (.t 46)]), some (42, true)⟩, ⟨some 48, .pu (.eqz true .p (.t 47) (.c (.p none))), some (42, true)⟩, ⟨some 49, .pu (.mov (.t 7)), some (42, true)⟩, ⟨some 50, .pu (.bin .geq (.t 49) (.c (.i .i64 1))), some (42, true)⟩, ⟨some 51, .pu (.mov (.t 50)), some (42, true)⟩] ++ o4_5
def o4_7 : List IOp := [⟨some 41, .pu (.pick (.t 36) (.t 40) (.c (.b false))), none⟩, ⟨some 42, .pu (.mov (.t 41)), none⟩] ++ o4_6
def o4_8 : List IOp := [⟨some 37, .pu (.mov (.t 6)), some (36, true)⟩, ⟨some 38, .ef (.call 26 [(.t 37)]), some (36, true)⟩, ⟨some 39, .pu (.lens (.t 38)), some (36, true)⟩, ⟨some 40, .pu (.bin .eql (.t 39) (.c (.i .i64 0))), some (36, true)⟩] ++ o4_7
def o4_9 : List IOp := [⟨some 35, .pu (.pick (.t 30) (.t 34) (.c (.b false))), none⟩, ⟨some 36, .pu (.mov (.t 35)), none⟩] ++ o4_8
def o4_10 : List IOp := [⟨some 31, .pu (.mov (.t 5)), some (30, true)⟩, ⟨some 32, .pu (.mov (.t 1)), some (30, true)⟩, ⟨some 33, .ef (.call 25 [(.t 31), (.t 32)]), some (30, true)⟩, ⟨some 34, .pu (.un .not (.t 33)), some (30, true)⟩] ++ o4_9
def o4_11 : List IOp := [⟨some 29, .pu (.pick (.t 25) (.t 28) (.c (.b false))), none⟩, ⟨some 30, .pu (.mov (.t 29)), none⟩] ++ o4_10
def o4_12 : List IOp := [⟨some 26, .pu (.mov (.t 5)), some (25, true)⟩, ⟨some 27, .ef (.call 20 [(.t 26)]), some (25, true)⟩, ⟨some 28, .pu (.bin .eql (.t 27) (.c (.i .i64 0))), some (25, true)⟩] ++ o4_11
def o4_13 : List IOp := [⟨some 24, .pu (.pick (.t 20) (.t 23) (.c (.b false))), none⟩, ⟨some 25, .pu (.mov (.t 24)), none⟩] ++ o4_12
def o4_14 : List IOp := [⟨some 21, .pu (.mov (.t 5)), some (20, true)⟩, ⟨some 22, .ef (.call 14 [(.t 21)]), some (20, true)⟩, ⟨some 23, .pu (.eqz false .p (.t 22) (.c (.p none))), some (20, true)⟩] ++ o4_13
def o4_15 : List IOp := [⟨some 19, .ef (.call 19 []), none⟩, ⟨some 20, .pu (.mov (.t 19)), none⟩] ++ o4_14
def c4 : IC := (.seq (.region [⟨some 4, .pu (.mov (.c (.b false))), none⟩]) (.seq (.region [⟨some 5, .pu (.mov (.c (.p none))), none⟩]) (.seq (.region [⟨some 9, .ef (.call 21 [(.c (.i .i64 3))]), none⟩, ⟨some 6, .pu (.mov (.t 9)), none⟩]) (.seq (.region [⟨some 10, .pu (.mov (.t 5)), none⟩, ⟨some 11, .pu (.mov (.t 6)), none⟩, ⟨some 12, .ef (.call 22 [(.t 10), (.t 11)]), none⟩]) (.seq (.region [⟨some 13, .pu (.mov (.t 5)), none⟩, ⟨some 14, .ef (.call 23 [(.t 13)]), none⟩]) (.seq (.region [⟨some 15, .pu (.mov (.t 0)), none⟩, ⟨some 16, .pu (.bin .and (.t 15) (.c (.i .i64 7))), none⟩, ⟨some 7, .pu (.mov (.t 16)), none⟩]) (.seq (.region [⟨some 17, .pu (.bld [(.i .i64 0), (.i .i64 0), (.i .i64 0), (.i .i64 0)] []), none⟩, ⟨some 18, .ef (.call 24 [(.t 17)]), none⟩, ⟨some 8, .pu (.mov (.t 18)), none⟩]) (.seq (.region o4_15) .ret))))))))
def ir4 : IFn := { ntmps := 63, results := rs4, body := c4 }
/-! cableway/cablewaylaw32.begin -/
def rs10 : List RV := [(.c 2 true 11)]
def c10 : IC := (.seq (.region [⟨some 2, .al (.zero [(.p none), (.p none), (.i .i64 0), (.i .i64 0), (.i .i64 0), (.i .i64 0), (.i .i64 0), (.i .i64 0), (.i .u64 0), (.i .u64 0), (.b false)]), none⟩]) (.seq (.region [⟨some 5, .pu (.mov (.t 0)), none⟩, ⟨some 6, .pu (.bin .mul (.c (.i .i64 4)) (.t 5)), none⟩, ⟨some 7, .pu (.bin .add (.c (.i .i64 1)) (.t 6)), none⟩, ⟨some 3, .pu (.mov (.t 7)), none⟩]) (.seq (.region [⟨some 8, .pu (.mov (.t 3)), none⟩, ⟨some 9, .pu (.bin .mul (.c (.i .i64 3)) (.t 8)), none⟩, ⟨some 10, .ef (.call 21 [(.t 9)]), none⟩, ⟨some 11, .pu (.mov (.t 0)), none⟩, ⟨some 12, .pu (.bld [(.i .i64 0), (.i .i64 0)] [(1, 1, (.t 11))]), none⟩, ⟨some 13, .pu (.mov (.t 3)), none⟩, ⟨some 14, .pu (.mov (.t 0)), none⟩, ⟨some 15, .pu (.bld [(.i .i64 0), (.i .i64 0)] [(0, 1, (.t 13)), (1, 1, (.t 14))]), none⟩, ⟨some 16, .pu (.mov (.t 3)), none⟩, ⟨some 17, .pu (.bin .mul (.c (.i .i64 2)) (.t 16)), none⟩, ⟨some 18, .pu (.mov (.t 0)), none⟩, ⟨some 19, .pu (.bld [(.i .i64 0), (.i .i64 0)] [(0, 1, (.t 17)), (1, 1, (.t 18))]), none⟩, ⟨some 20, .pu (.bld [(.i .i64 0), (.i .i64 0), (.i .i64 0), (.i .i64 0)] [(0, 2, (.t 15)), (2, 2, (.t 19))]), none⟩, ⟨some 21, .pu (.bld [(.p none), (.p none), (.i .i64 0), (.i .i64 0), (.i .i64 0), (.i .i64 0), (.i .i64 0), (.i .i64 0), (.i .u64 0), (.i .u64 0), (.b false)] [(1, 1, (.t 10)), (2, 2, (.t 12)), (4, 4, (.t 20)), (10, 1, (.c (.b true)))]), none⟩, ⟨some 4, .al (.zero [(.p none), (.p none), (.i .i64 0), (.i .i64 0), (.i .i64 0), (.i .i64 0), (.i .i64 0), (.i .i64 0), (.i .u64 0), (.i .u64 0), (.b false)]), none⟩, ⟨none, .ef (.store 11 (.t 4) (.t 21)), none⟩]) (.seq (.region [⟨some 22, .pu (.fa 1 (.t 4)), none⟩, ⟨some 23, .ld false 1 (.t 22), none⟩, ⟨some 24, .pu (.fa 2 (.t 4)), none⟩, ⟨some 25, .ld true 2 (.t 24), none⟩, ⟨some 26, .ef (.call 58 [(.t 23), (.t 25)]), none⟩]) (.seq (.region [⟨some 27, .pu (.fa 1 (.t 4)), none⟩, ⟨some 28, .ld false 1 (.t 27), none⟩, ⟨some 29, .pu (.fa 4 (.t 4)), none⟩, ⟨some 30, .pu (.iaa 2 2 (.t 29) (.c (.i .i64 0))), none⟩, ⟨some 31, .ld true 2 (.t 30), none⟩, ⟨some 32, .ef (.call 58 [(.t 28), (.t 31)]), none⟩]) (.seq (.region [⟨some 33, .pu (.fa 1 (.t 4)), none⟩, ⟨some 34, .ld false 1 (.t 33), none⟩, ⟨some 35, .pu (.fa 4 (.t 4)), none⟩, ⟨some 36, .pu (.iaa 2 2 (.t 35) (.c (.i .i64 1))), none⟩, ⟨some 37, .ld true 2 (.t 36), none⟩, ⟨some 38, .ef (.call 58 [(.t 34), (.t 37)]), none⟩]) (.seq (.draw [⟨some 39, .pu (.bld [(.i .i64 0), (.i .i64 0), (.i .i64 0), (.i .i64 0)] [(0, 1, (.c (.i .i64 1))), (1, 1, (.c (.i .i64 3))), (2, 1, (.c (.i .i64 20))), (3, 1, (.c (.i .i64 2)))]), none⟩, ⟨some 40, .ef (.call 24 [(.t 39)]), none⟩, ⟨some 41, .pu (.fa 2 (.t 4)), none⟩, ⟨some 42, .ld true 2 (.t 41), none⟩, ⟨some 43, .pu (.fa 4 (.t 4)), none⟩, ⟨some 44, .pu (.sla 2 2 (.t 43) none none none), none⟩, ⟨some 45, .ef (.call 27 [(.t 40), (.t 42), (.t 44)]), none⟩, ⟨some 46, .pu (.fa 0 (.t 4)), none⟩, ⟨none, .ef (.store 1 (.t 46) (.t 45)), none⟩] [(3, 1)]) (.seq (.region [⟨some 47, .ld true 11 (.t 4), none⟩, ⟨none, .ef (.store 11 (.t 2) (.t 47)), none⟩]) .ret))))))))
def ir10 : IFn := { ntmps := 48, results := rs10, body := c10 }
/-! (cableway/cablewaylaw32.rig).ask -/
def rs12 : List RV := [(.c 4 true 11), (.t 5)]
def o12_2 : List IOp := [⟨some 39, .pu (.pick (.t 36) (.t 38) (.c (.b false))), none⟩, ⟨none, .ef (.store 11 (.t 4) (.t 34)), none⟩, ⟨some 5, .pu (.mov (.t 39)), none⟩] ++ []
def o12_3 : List IOp := [⟨some 37, .pu (.mov (.t 10)), some (36, true)⟩, ⟨some 38, .pu (.bin .eql (.t 37) (.c (.i .i64 0))), some (36, true)⟩] ++ o12_2
def o12_4 : List IOp := [⟨some 34, .ld true 11 (.t 2), none⟩, ⟨some 35, .pu (.mov (.t 11)), none⟩, ⟨some 36, .pu (.mov (.t 35)), none⟩] ++ o12_3
def c12_1 : IC := (.seq (.region [⟨some 30, .ld true 9 (.t 8), none⟩, ⟨some 31, .ef (.call 63 [(.t 30)]), none⟩, ⟨some 29, .pu (.mov (.t 31)), none⟩, ⟨some 32, .pu (.ext (.t 29) 0), none⟩, ⟨some 33, .pu (.ext (.t 29) 1), none⟩, ⟨some 10, .pu (.mov (.t 32)), none⟩, ⟨some 11, .pu (.mov (.t 33)), none⟩]) (.seq (.region o12_4) .ret))
def c12_6 : IC := (.seq (.seq (.region [⟨some 21, .pu (.mov (.t 9)), none⟩, ⟨some 22, .pu (.bin .lss (.t 21) (.c (.i .i64 9))), none⟩]) (.cond (.t 22) .skip (.exit 0))) (.seq (.block 1 (.region [⟨some 25, .ld true 9 (.t 8), none⟩, ⟨some 26, .pu (.fa 1 (.t 2)), none⟩, ⟨some 27, .ld false 1 (.t 26), none⟩, ⟨some 28, .ef (.call 62 [(.t 25), (.t 27)]), none⟩, ⟨none, .ef (.store 9 (.t 8) (.t 28)), none⟩])) (.region [⟨some 23, .pu (.mov (.t 9)), none⟩, ⟨some 24, .pu (.bin .add (.t 23) (.c (.i .i64 1))), none⟩, ⟨some 9, .pu (.mov (.t 24)), none⟩])))
def c12 : IC := (.seq (.region [⟨some 2, .al (.box (.t 0)), none⟩, ⟨some 3, .al (.box (.t 1)), none⟩, ⟨some 4, .al (.zero [(.p none), (.p none), (.i .i64 0), (.i .i64 0), (.i .i64 0), (.i .i64 0), (.i .i64 0), (.i .i64 0), (.i .u64 0), (.i .u64 0), (.b false)]), none⟩, ⟨some 5, .pu (.mov (.c (.b false))), none⟩]) (.seq (.region [⟨some 13, .ld true 11 (.t 3), none⟩, ⟨some 14, .ef (.call 60 [(.t 13)]), none⟩, ⟨some 12, .pu (.mov (.t 14)), none⟩, ⟨some 15, .pu (.ext (.t 12) 0), none⟩, ⟨some 16, .pu (.ext (.t 12) 1), none⟩, ⟨some 6, .al (.zero [(.i .u64 0), (.i .u64 0), (.i .u64 0)]), none⟩, ⟨none, .ef (.store 3 (.t 6) (.t 15)), none⟩, ⟨some 7, .pu (.mov (.t 16)), none⟩]) (.seq (.region [⟨some 17, .pu (.fa 2 (.t 2)), none⟩, ⟨some 18, .ld true 2 (.t 17), none⟩, ⟨some 19, .ld true 3 (.t 6), none⟩, ⟨some 20, .ef (.call 61 [(.t 18), (.t 19)]), none⟩, ⟨some 8, .al (.zero [(.i .i64 0), (.i .i64 0), (.i .u64 0), (.i .u64 0), (.i .u64 0), (.i .u64 0), (.i .i64 0), (.b false), (.b false)]), none⟩, ⟨none, .ef (.store 9 (.t 8) (.t 20)), none⟩]) (.seq (.seq (.region [⟨some 9, .pu (.mov (.c (.i .i64 0))), none⟩]) (.block 0 (.loop c12_6))) c12_1))))
def ir12 : IFn := { ntmps := 40, results := rs12, body := c12 }
/-! (cableway/cablewaylaw32.rig).step -/
def rs13 : List RV := [(.c 4 true 11)]
def c13_1 : IC := (.seq (.region [⟨some 29, .ld true 11 (.t 2), none⟩, ⟨none, .ef (.store 11 (.t 4) (.t 29)), none⟩]) .ret)
def c13_3 : IC := (.region [⟨some 9, .pu (.mov (.t 5)), none⟩, ⟨some 10, .pu (.bin .add (.t 9) (.c (.i .i64 1))), none⟩, ⟨some 5, .pu (.mov (.t 10)), none⟩])
def o13_4 : List IOp := [⟨some 27, .pu (.pick (.t 21) (.t 26) (.c (.b false))), none⟩, ⟨some 28, .pu (.fa 10 (.t 2)), none⟩, ⟨none, .ef (.store 1 (.t 28) (.t 27)), none⟩] ++ []
def o13_5 : List IOp := [⟨some 22, .pu (.fa 1 (.t 2)), some (21, true)⟩, ⟨some 23, .ld false 1 (.t 22), some (21, true)⟩, ⟨some 24, .ef (.call 26 [(.t 23)]), some (21, true)⟩, ⟨some 25, .pu (.lens (.t 24)), some (21, true)⟩, ⟨some 26, .pu (.bin .leq (.t 25) (.c (.i .i64 1))), some (21, true)⟩] ++ o13_4
def o13_6 : List IOp := [⟨some 19, .pu (.fa 10 (.t 2)), none⟩, ⟨some 20, .ld false 1 (.t 19), none⟩, ⟨some 21, .pu (.mov (.t 20)), none⟩] ++ o13_5
def c13_2 : IC := (.seq (.seq (.region [⟨some 6, .pu (.mov (.t 5)), none⟩, ⟨some 7, .pu (.mov (.t 1)), none⟩, ⟨some 8, .pu (.bin .lss (.t 6) (.t 7)), none⟩]) (.cond (.t 8) .skip (.exit 0))) (.seq (.block 1 (.seq (.region [⟨some 11, .pu (.fa 1 (.t 2)), none⟩, ⟨some 12, .ld false 1 (.t 11), none⟩, ⟨some 13, .ef (.call 64 [(.t 12)]), none⟩]) (.seq (.region [⟨some 14, .pu (.fa 0 (.t 2)), none⟩, ⟨some 15, .ld false 1 (.t 14), none⟩, ⟨some 16, .pu (.fa 1 (.t 2)), none⟩, ⟨some 17, .ld false 1 (.t 16), none⟩, ⟨some 18, .ef (.call 22 [(.t 15), (.t 17)]), none⟩]) (.region o13_6)))) c13_3))
def c13 : IC := (.seq (.region [⟨some 2, .al (.box (.t 0)), none⟩, ⟨some 4, .al (.zero [(.p none), (.p none), (.i .i64 0), (.i .i64 0), (.i .i64 0), (.i .i64 0), (.i .i64 0), (.i .i64 0), (.i .u64 0), (.i .u64 0), (.b false)]), none⟩]) (.seq (.seq (.region [⟨some 5, .pu (.mov (.c (.i .i64 0))), none⟩]) (.block 0 (.loop c13_2))) c13_1))
def ir13 : IFn := { ntmps := 30, results := rs13, body := c13 }
/-! (*cableway/post.Post).Server -/
def rs14 : List RV := [(.t 2)]
def c14 : IC := (.seq (.region [⟨some 2, .pu (.mov (.c (.p none))), none⟩]) (.seq (.seq (.region [⟨some 3, .pu (.mov (.t 0)), none⟩, ⟨some 4, .pu (.eqz false .p (.t 3) (.c (.p none))), none⟩]) (.cond (.t 4) (.seq (.region [⟨some 2, .pu (.mov (.c (.p none))), none⟩]) .ret) .skip)) (.seq (.region [⟨some 5, .pu (.mov (.t 0)), none⟩, ⟨some 6, .pu (.nilc (.t 5)), none⟩, ⟨some 7, .pu (.fa 0 (.t 6)), none⟩, ⟨some 8, .ld false 1 (.t 7), none⟩, ⟨some 2, .pu (.mov (.t 8)), none⟩]) .ret)))
def ir14 : IFn := { ntmps := 9, results := rs14, body := c14 }
/-! (*cableway/server.Server).Work -/
def rs16 : List RV := [(.t 6)]
def c16_2 : IC := (.seq (.region [⟨some 96, .pu (.mov (.t 12)), none⟩, ⟨some 6, .pu (.mov (.t 96)), none⟩]) .ret)
def c16_1 : IC := (.seq (.region [⟨some 28, .pu (.mov (.t 0)), none⟩, ⟨some 29, .pu (.nilc (.t 28)), none⟩, ⟨some 30, .pu (.fa 4 (.t 29)), none⟩, ⟨some 31, .ld false 1 (.t 30), none⟩, ⟨some 32, .pu (.mov (.t 1)), none⟩, ⟨some 33, .pu (.ia 1 (.t 31) (.t 32)), none⟩, ⟨some 34, .ld false 1 (.t 33), none⟩, ⟨some 7, .pu (.mov (.t 34)), none⟩]) (.seq (.region [⟨some 36, .pu (.mov (.t 7)), none⟩, ⟨some 37, .ef (.call 66 [(.t 36)]), none⟩, ⟨some 35, .pu (.mov (.t 37)), none⟩, ⟨some 38, .pu (.ext (.t 35) 0), none⟩, ⟨some 39, .pu (.ext (.t 35) 1), none⟩, ⟨some 8, .al (.zero [(.i .i64 0), (.i .i64 0), (.i .i64 0), (.i .i64 0), (.i .i64 0), (.i .u32 0), (.i .i64 0), (.b false), (.b false), (.i .i64 0), (.i .u32 0)]), none⟩, ⟨none, .ef (.store 11 (.t 8) (.t 38)), none⟩, ⟨some 9, .pu (.mov (.t 39)), none⟩]) (.seq (.seq (.region [⟨some 40, .pu (.mov (.t 9)), none⟩, ⟨some 41, .pu (.un .not (.t 40)), none⟩]) (.cond (.t 41) (.seq (.seq (.region [⟨some 42, .pu (.mov (.t 7)), none⟩, ⟨some 43, .pu (.mov (.t 0)), none⟩, ⟨some 44, .pu (.nilc (.t 43)), none⟩, ⟨some 45, .pu (.fa 0 (.t 44)), none⟩, ⟨some 46, .pu (.fa 3 (.t 45)), none⟩, ⟨some 47, .ld false 1 (.t 46), none⟩, ⟨some 48, .ef (.call 67 [(.t 42), (.t 47)]), none⟩, ⟨some 49, .pu (.un .not (.t 48)), none⟩]) (.cond (.t 49) (.seq (.region [⟨some 6, .pu (.mov (.c (.b false))), none⟩]) .ret) .skip)) (.seq (.region [⟨some 51, .pu (.mov (.t 7)), none⟩, ⟨some 52, .ef (.call 66 [(.t 51)]), none⟩, ⟨some 50, .pu (.mov (.t 52)), none⟩, ⟨some 53, .pu (.ext (.t 50) 0), none⟩, ⟨some 54, .pu (.ext (.t 50) 1), none⟩, ⟨none, .ef (.store 11 (.t 8) (.t 53)), none⟩]) (.seq (.draw [⟨some 55, .pu (.mov (.t 0)), none⟩, ⟨some 56, .pu (.mov (.t 0)), none⟩, ⟨some 57, .pu (.nilc (.t 56)), none⟩, ⟨some 58, .pu (.fa 11 (.t 57)), none⟩, ⟨some 59, .ld false 1 (.t 58), none⟩, ⟨some 60, .ld true 11 (.t 8), none⟩, ⟨some 61, .al (.sl 1 [(.i .i64 0), (.i .i64 0), (.i .i64 0), (.i .i64 0), (.i .i64 0), (.i .u32 0), (.i .i64 0), (.b false), (.b false), (.i .i64 0), (.i .u32 0)] [(0, 11, (.t 60))]), none⟩, ⟨some 62, .ef (.app 11 80 (.t 59) (.t 61)), none⟩, ⟨some 63, .pu (.nilc (.t 55)), none⟩, ⟨some 64, .pu (.fa 11 (.t 63)), none⟩, ⟨none, .ef (.store 1 (.t 64) (.t 62)), none⟩] []) (.seq (.region [⟨some 6, .pu (.mov (.c (.b true))), none⟩]) .ret)))) .skip)) (.seq (.seq (.draw [⟨some 65, .pu (.mov (.t 0)), none⟩, ⟨some 66, .pu (.fa 1 (.t 8)), none⟩, ⟨some 67, .ld false 1 (.t 66), none⟩, ⟨some 68, .pu (.nilc (.t 65)), none⟩, ⟨some 69, .pu (.fa 7 (.t 68)), none⟩, ⟨some 70, .pu (.iaa 1 4 (.t 69) (.t 67)), none⟩, ⟨some 71, .ld false 1 (.t 70), none⟩, ⟨some 72, .pu (.lens (.t 71)), none⟩, ⟨some 73, .pu (.bin .geq (.t 72) (.c (.i .i64 32))), none⟩] []) (.cond (.t 73) (.seq (.region [⟨some 6, .pu (.mov (.c (.b false))), none⟩]) .ret) .skip)) (.seq (.region [⟨some 75, .pu (.mov (.t 7)), none⟩, ⟨some 76, .pu (.mov (.t 2)), none⟩, ⟨some 77, .pu (.mov (.t 0)), none⟩, ⟨some 78, .pu (.nilc (.t 77)), none⟩, ⟨some 79, .pu (.fa 6 (.t 78)), none⟩, ⟨some 80, .ld false 1 (.t 79), none⟩, ⟨some 81, .ef (.call 68 [(.t 75), (.t 76), (.t 80)]), none⟩, ⟨some 74, .pu (.mov (.t 81)), none⟩, ⟨some 82, .pu (.ext (.t 74) 0), none⟩, ⟨some 83, .pu (.ext (.t 74) 1), none⟩, ⟨some 84, .pu (.ext (.t 74) 2), none⟩, ⟨some 10, .al (.zero [(.i .i64 0), (.i .i64 0), (.i .i64 0), (.i .i64 0), (.i .i64 0), (.i .u32 0), (.i .i64 0), (.b false), (.b false), (.i .i64 0), (.i .u32 0)]), none⟩, ⟨none, .ef (.store 11 (.t 10) (.t 82)), none⟩, ⟨some 11, .pu (.mov (.t 83)), none⟩, ⟨some 12, .pu (.mov (.t 84)), none⟩]) (.seq (.region [⟨some 85, .pu (.mov (.t 0)), none⟩, ⟨some 86, .pu (.mov (.t 11)), none⟩, ⟨some 87, .pu (.nilc (.t 85)), none⟩, ⟨some 88, .pu (.fa 6 (.t 87)), none⟩, ⟨none, .ef (.store 1 (.t 88) (.t 86)), none⟩]) (.seq (.seq (.region [⟨some 89, .pu (.mov (.t 12)), none⟩]) (.cond (.t 89) (.seq (.region [⟨some 90, .pu (.mov (.t 0)), none⟩, ⟨some 91, .ld true 11 (.t 10), none⟩, ⟨some 92, .ef (.call 69 [(.t 90), (.t 91)]), none⟩]) (.region [⟨some 93, .pu (.mov (.t 0)), none⟩, ⟨some 94, .ld true 11 (.t 10), none⟩, ⟨some 95, .ef (.call 70 [(.t 93), (.t 94)]), none⟩])) .skip)) c16_2)))))))
def c16_3 : IC := (.cond (.t 27) (.seq (.region [⟨some 6, .pu (.mov (.c (.b false))), none⟩]) .ret) .skip)
def o16_4 : List IOp := [⟨some 27, .pu (.pick (.t 19) (.c (.b true)) (.t 26)), none⟩] ++ []
def o16_5 : List IOp := [⟨some 20, .pu (.mov (.t 1)), some (19, false)⟩, ⟨some 21, .pu (.mov (.t 0)), some (19, false)⟩, ⟨some 22, .pu (.nilc (.t 21)), some (19, false)⟩, ⟨some 23, .pu (.fa 4 (.t 22)), some (19, false)⟩, ⟨some 24, .ld false 1 (.t 23), some (19, false)⟩, ⟨some 25, .pu (.lens (.t 24)), some (19, false)⟩, ⟨some 26, .pu (.bin .geq (.t 20) (.t 25)), some (19, false)⟩] ++ o16_4
def o16_6 : List IOp := [⟨some 18, .pu (.pick (.t 15) (.c (.b true)) (.t 17)), none⟩, ⟨some 19, .pu (.mov (.t 18)), none⟩] ++ o16_5
def o16_7 : List IOp := [⟨some 16, .pu (.mov (.t 1)), some (15, false)⟩, ⟨some 17, .pu (.bin .lss (.t 16) (.c (.i .i64 0))), some (15, false)⟩] ++ o16_6
def o16_8 : List IOp := [⟨some 13, .pu (.mov (.t 0)), none⟩, ⟨some 14, .pu (.eqz false .p (.t 13) (.c (.p none))), none⟩, ⟨some 15, .pu (.mov (.t 14)), none⟩] ++ o16_7
def c16 : IC := (.seq (.region [⟨some 6, .pu (.mov (.c (.b false))), none⟩]) (.seq (.seq (.region o16_8) c16_3) c16_1))
def ir16 : IFn := { ntmps := 97, results := rs16, body := c16 }
/-! (cableway/cablewaylaw32.rig).told -/
def rs18 : List RV := [(.c 4 true 11), (.c 5 true 11), (.t 6)]
def c18_1 : IC := (.seq (.seq (.region [⟨some 31, .ld true 8 (.t 7), none⟩, ⟨some 32, .ef (.call 74 [(.t 31)]), none⟩, ⟨some 30, .pu (.mov (.t 32)), none⟩, ⟨some 33, .pu (.ext (.t 30) 0), none⟩, ⟨some 34, .pu (.ext (.t 30) 1), none⟩, ⟨some 9, .pu (.mov (.t 33)), none⟩, ⟨some 10, .pu (.mov (.t 34)), none⟩]) (.seq (.region [⟨some 35, .pu (.mov (.t 9)), none⟩, ⟨some 36, .pu (.bin .neq (.t 35) (.c (.i .i64 0))), none⟩]) (.cond (.t 36) (.seq (.region [⟨some 37, .ld true 11 (.t 2), none⟩, ⟨some 38, .pu (.bld [(.i .i64 0), (.i .i64 0), (.i .i64 0), (.i .i64 0), (.i .i64 0), (.i .u32 0), (.i .i64 0), (.b false), (.b false), (.i .i64 0), (.i .u32 0)] []), none⟩, ⟨none, .ef (.store 11 (.t 4) (.t 37)), none⟩, ⟨none, .ef (.store 11 (.t 5) (.t 38)), none⟩, ⟨some 6, .pu (.mov (.c (.b false))), none⟩]) .ret) .skip))) (.seq (.region [⟨some 39, .pu (.mov (.t 1)), none⟩, ⟨some 40, .pu (.fa 8 (.t 2)), none⟩, ⟨some 41, .pu (.iaa 1 2 (.t 40) (.t 39)), none⟩, ⟨some 42, .ld false 1 (.t 41), none⟩, ⟨some 43, .pu (.bin .add (.t 42) (.c (.i .u64 1))), none⟩, ⟨some 44, .pu (.fa 8 (.t 2)), none⟩, ⟨some 45, .pu (.iaa 1 2 (.t 44) (.t 39)), none⟩, ⟨none, .ef (.store 1 (.t 45) (.t 43)), none⟩]) (.seq (.region [⟨some 47, .ld true 8 (.t 7), none⟩, ⟨some 48, .ef (.call 76 [(.t 47)]), none⟩, ⟨some 49, .ef (.call 75 [(.t 48)]), none⟩, ⟨some 46, .pu (.mov (.t 49)), none⟩, ⟨some 50, .pu (.ext (.t 46) 0), none⟩, ⟨some 51, .pu (.ext (.t 46) 1), none⟩, ⟨some 11, .al (.zero [(.i .i64 0), (.i .i64 0), (.i .i64 0), (.i .i64 0), (.i .i64 0), (.i .u32 0), (.i .i64 0), (.b false), (.b false), (.i .i64 0), (.i .u32 0)]), none⟩, ⟨none, .ef (.store 11 (.t 11) (.t 50)), none⟩, ⟨some 12, .pu (.mov (.t 51)), none⟩]) (.seq (.draw [⟨some 52, .ld true 11 (.t 2), none⟩, ⟨some 53, .ld true 11 (.t 11), none⟩, ⟨some 54, .pu (.mov (.t 12)), none⟩, ⟨some 55, .pu (.bin .eql (.t 54) (.c (.i .i64 0))), none⟩, ⟨none, .ef (.store 11 (.t 4) (.t 52)), none⟩, ⟨none, .ef (.store 11 (.t 5) (.t 53)), none⟩, ⟨some 6, .pu (.mov (.t 55)), none⟩] [(1, 4)]) .ret))))
def c18_2 : IC := (.seq (.seq (.region [⟨some 22, .pu (.mov (.t 8)), none⟩, ⟨some 23, .pu (.bin .lss (.t 22) (.c (.i .i64 6))), none⟩]) (.cond (.t 23) .skip (.exit 0))) (.seq (.block 1 (.region [⟨some 26, .ld true 8 (.t 7), none⟩, ⟨some 27, .pu (.fa 1 (.t 2)), none⟩, ⟨some 28, .ld false 1 (.t 27), none⟩, ⟨some 29, .ef (.call 73 [(.t 26), (.t 28)]), none⟩, ⟨none, .ef (.store 8 (.t 7) (.t 29)), none⟩])) (.region [⟨some 24, .pu (.mov (.t 8)), none⟩, ⟨some 25, .pu (.bin .add (.t 24) (.c (.i .i64 1))), none⟩, ⟨some 8, .pu (.mov (.t 25)), none⟩])))
def c18 : IC := (.seq (.region [⟨some 2, .al (.box (.t 0)), none⟩, ⟨some 4, .al (.zero [(.p none), (.p none), (.i .i64 0), (.i .i64 0), (.i .i64 0), (.i .i64 0), (.i .i64 0), (.i .i64 0), (.i .u64 0), (.i .u64 0), (.b false)]), none⟩, ⟨some 5, .al (.zero [(.i .i64 0), (.i .i64 0), (.i .i64 0), (.i .i64 0), (.i .i64 0), (.i .u32 0), (.i .i64 0), (.b false), (.b false), (.i .i64 0), (.i .u32 0)]), none⟩, ⟨some 6, .pu (.mov (.c (.b false))), none⟩]) (.seq (.draw [⟨some 13, .pu (.mov (.t 1)), none⟩, ⟨some 14, .pu (.fa 4 (.t 2)), none⟩, ⟨some 15, .pu (.iaa 2 2 (.t 14) (.t 13)), none⟩, ⟨some 16, .ld true 2 (.t 15), none⟩, ⟨some 17, .pu (.mov (.t 1)), none⟩, ⟨some 18, .pu (.fa 8 (.t 2)), none⟩, ⟨some 19, .pu (.iaa 1 2 (.t 18) (.t 17)), none⟩, ⟨some 20, .ld false 1 (.t 19), none⟩, ⟨some 21, .ef (.call 72 [(.t 16), (.t 20)]), none⟩, ⟨some 7, .al (.zero [(.i .i64 0), (.i .i64 0), (.i .u64 0), (.i .u64 0), (.i .u64 0), (.i .u64 0), (.i .i64 0), (.b false)]), none⟩, ⟨none, .ef (.store 8 (.t 7) (.t 21)), none⟩] []) (.seq (.seq (.region [⟨some 8, .pu (.mov (.c (.i .i64 0))), none⟩]) (.block 0 (.loop c18_2))) c18_1)))
def ir18 : IFn := { ntmps := 56, results := rs18, body := c18 }
/-! cableway/cablewaylaw32.awake -/
def rs19 : List RV := [(.t 0)]
def o19_1 : List IOp := [⟨some 49, .pu (.pick (.t 45) (.t 48) (.c (.b false))), none⟩, ⟨some 0, .pu (.mov (.t 49)), none⟩] ++ []
def o19_2 : List IOp := [⟨some 46, .pu (.fa 10 (.t 5)), some (45, true)⟩, ⟨some 47, .ld false 1 (.t 46), some (45, true)⟩, ⟨some 48, .pu (.bin .eql (.t 47) (.c (.i .u32 6))), some (45, true)⟩] ++ o19_1
def o19_3 : List IOp := [⟨some 44, .pu (.pick (.t 40) (.t 43) (.c (.b false))), none⟩, ⟨some 45, .pu (.mov (.t 44)), none⟩] ++ o19_2
def o19_4 : List IOp := [⟨some 41, .pu (.fa 0 (.t 5)), some (40, true)⟩, ⟨some 42, .ld false 1 (.t 41), some (40, true)⟩, ⟨some 43, .pu (.bin .eql (.t 42) (.c (.i .i64 2))), some (40, true)⟩] ++ o19_3
def o19_5 : List IOp := [⟨some 39, .pu (.pick (.t 37) (.t 38) (.c (.b false))), none⟩, ⟨some 40, .pu (.mov (.t 39)), none⟩] ++ o19_4
def o19_6 : List IOp := [⟨some 38, .pu (.mov (.t 6)), some (37, true)⟩] ++ o19_5
def o19_7 : List IOp := [⟨some 36, .pu (.pick (.t 34) (.t 35) (.c (.b false))), none⟩, ⟨some 37, .pu (.mov (.t 36)), none⟩] ++ o19_6
def o19_8 : List IOp := [⟨some 35, .pu (.mov (.t 4)), some (34, true)⟩] ++ o19_7
def o19_9 : List IOp := [⟨some 33, .pu (.pick (.t 31) (.t 32) (.c (.b false))), none⟩, ⟨some 34, .pu (.mov (.t 33)), none⟩] ++ o19_8
def o19_10 : List IOp := [⟨some 32, .pu (.mov (.t 3)), some (31, true)⟩] ++ o19_9
def o19_11 : List IOp := [⟨some 30, .pu (.mov (.t 2)), none⟩, ⟨some 31, .pu (.mov (.t 30)), none⟩] ++ o19_10
def c19 : IC := (.seq (.region [⟨some 0, .pu (.mov (.c (.b false))), none⟩]) (.seq (.region [⟨some 8, .ef (.call 10 [(.c (.i .i64 2))]), none⟩, ⟨some 9, .pu (.bld [(.i .i64 0), (.i .i64 0), (.i .i64 0), (.i .i64 0), (.i .i64 0), (.i .u32 0), (.i .i64 0), (.b false), (.b false), (.i .i64 0), (.i .u32 0)] [(0, 1, (.c (.i .i64 1))), (1, 1, (.c (.i .i64 1))), (5, 1, (.c (.i .u32 1))), (9, 1, (.c (.i .i64 0))), (10, 1, (.c (.i .u32 6)))]), none⟩, ⟨some 10, .ef (.call 12 [(.t 8), (.t 9)]), none⟩, ⟨some 7, .pu (.mov (.t 10)), none⟩, ⟨some 11, .pu (.ext (.t 7) 0), none⟩, ⟨some 12, .pu (.ext (.t 7) 1), none⟩, ⟨some 1, .al (.zero [(.p none), (.p none), (.i .i64 0), (.i .i64 0), (.i .i64 0), (.i .i64 0), (.i .i64 0), (.i .i64 0), (.i .u64 0), (.i .u64 0), (.b false)]), none⟩, ⟨none, .ef (.store 11 (.t 1) (.t 11)), none⟩, ⟨some 2, .pu (.mov (.t 12)), none⟩]) (.seq (.region [⟨some 13, .ld true 11 (.t 1), none⟩, ⟨some 14, .ef (.call 13 [(.t 13), (.c (.i .i64 8))]), none⟩, ⟨none, .ef (.store 11 (.t 1) (.t 14)), none⟩]) (.seq (.draw [⟨some 15, .pu (.fa 0 (.t 1)), none⟩, ⟨some 16, .ld false 1 (.t 15), none⟩, ⟨some 17, .ef (.call 14 [(.t 16)]), none⟩, ⟨some 18, .ef (.call 16 [(.t 17), (.c (.i .i64 0)), (.c (.i .i64 0))]), none⟩, ⟨some 19, .pu (.fa 0 (.t 1)), none⟩, ⟨some 20, .ld false 1 (.t 19), none⟩, ⟨some 21, .ef (.call 14 [(.t 20)]), none⟩, ⟨some 22, .ef (.call 16 [(.t 21), (.c (.i .i64 0)), (.c (.i .i64 1))]), none⟩, ⟨some 3, .pu (.mov (.t 18)), none⟩, ⟨some 4, .pu (.mov (.t 22)), none⟩] [(5, 2), (5, 3)]) (.seq (.region [⟨some 24, .ld true 11 (.t 1), none⟩, ⟨some 25, .ef (.call 13 [(.t 24), (.c (.i .i64 20))]), none⟩, ⟨some 26, .ef (.call 18 [(.t 25), (.c (.i .i64 1))]), none⟩, ⟨some 23, .pu (.mov (.t 26)), none⟩, ⟨some 27, .pu (.ext (.t 23) 0), none⟩, ⟨some 28, .pu (.ext (.t 23) 1), none⟩, ⟨some 29, .pu (.ext (.t 23) 2), none⟩, ⟨some 5, .al (.zero [(.i .i64 0), (.i .i64 0), (.i .i64 0), (.i .i64 0), (.i .i64 0), (.i .u32 0), (.i .i64 0), (.b false), (.b false), (.i .i64 0), (.i .u32 0)]), none⟩, ⟨none, .ef (.store 11 (.t 1) (.t 27)), none⟩, ⟨none, .ef (.store 11 (.t 5) (.t 28)), none⟩, ⟨some 6, .pu (.mov (.t 29)), none⟩]) (.seq (.region o19_11) .ret))))))
def ir19 : IFn := { ntmps := 50, results := rs19, body := c19 }
/-! (*cableway/post.Post).Got -/
def rs20 : List RV := [(.t 2)]
def c20 : IC := (.seq (.region [⟨some 2, .pu (.mov (.c (.i .i64 0))), none⟩]) (.seq (.seq (.region [⟨some 3, .pu (.mov (.t 0)), none⟩, ⟨some 4, .pu (.eqz false .p (.t 3) (.c (.p none))), none⟩]) (.cond (.t 4) (.seq (.region [⟨some 2, .pu (.mov (.c (.i .i64 0))), none⟩]) .ret) .skip)) (.seq (.region [⟨some 5, .pu (.mov (.t 0)), none⟩, ⟨some 6, .pu (.nilc (.t 5)), none⟩, ⟨some 7, .pu (.fa 28 (.t 6)), none⟩, ⟨some 8, .ld false 1 (.t 7), none⟩, ⟨some 2, .pu (.mov (.t 8)), none⟩]) .ret)))
def ir20 : IFn := { ntmps := 9, results := rs20, body := c20 }
/-! cableway/arena.New -/
def rs21 : List RV := [(.t 2)]
def c21_1 : IC := (.seq (.region [⟨some 9, .pu (.mov (.t 0)), none⟩, ⟨some 10, .al (.mks 8 [(.i .u64 0)] (.t 9)), none⟩, ⟨some 11, .pu (.bld [.nsl, .nsl, (.i .i64 0)] [(0, 1, (.t 10))]), none⟩, ⟨some 12, .al (.box (.t 11)), none⟩, ⟨some 2, .pu (.mov (.t 12)), none⟩]) .ret)
def c21_2 : IC := (.cond (.t 8) (.seq (.region [⟨some 2, .pu (.mov (.c (.p none))), none⟩]) .ret) .skip)
def o21_3 : List IOp := [⟨some 8, .pu (.pick (.t 5) (.c (.b true)) (.t 7)), none⟩] ++ []
def o21_4 : List IOp := [⟨some 6, .pu (.mov (.t 0)), some (5, false)⟩, ⟨some 7, .pu (.bin .gtr (.t 6) (.c (.i .i64 16384))), some (5, false)⟩] ++ o21_3
def o21_5 : List IOp := [⟨some 3, .pu (.mov (.t 0)), none⟩, ⟨some 4, .pu (.bin .lss (.t 3) (.c (.i .i64 1))), none⟩, ⟨some 5, .pu (.mov (.t 4)), none⟩] ++ o21_4
def c21 : IC := (.seq (.region [⟨some 2, .pu (.mov (.c (.p none))), none⟩]) (.seq (.seq (.region o21_5) c21_2) c21_1))
def ir21 : IFn := { ntmps := 13, results := rs21, body := c21 }
/-! (*cableway/post.Post).Step -/
def rs22 : List RV := []
def c22_2 : IC := (.seq (.region [⟨some 17, .pu (.mov (.t 0)), none⟩, ⟨some 18, .pu (.nilc (.t 17)), none⟩, ⟨some 19, .pu (.fa 9 (.t 18)), none⟩, ⟨some 20, .ld false 1 (.t 19), none⟩, ⟨some 21, .pu (.bin .eql (.t 20) (.c (.i .i64 1))), none⟩]) (.cond (.t 21) (.region [⟨some 22, .pu (.mov (.t 0)), none⟩, ⟨some 23, .pu (.mov (.t 1)), none⟩, ⟨some 24, .ef (.call 78 [(.t 22), (.t 23)]), none⟩]) (.region [⟨some 25, .pu (.mov (.t 0)), none⟩, ⟨some 26, .pu (.mov (.t 1)), none⟩, ⟨some 27, .ef (.call 79 [(.t 25), (.t 26)]), none⟩])))
def c22_1 : IC := (.seq (.seq (.region [⟨some 10, .pu (.mov (.t 0)), none⟩, ⟨some 11, .pu (.nilc (.t 10)), none⟩, ⟨some 12, .pu (.fa 9 (.t 11)), none⟩, ⟨some 13, .ld false 1 (.t 12), none⟩, ⟨some 14, .pu (.bin .eql (.t 13) (.c (.i .i64 0))), none⟩]) (.cond (.t 14) (.region [⟨some 15, .pu (.mov (.t 0)), none⟩, ⟨some 16, .ef (.call 77 [(.t 15)]), none⟩]) .skip)) c22_2)
def c22_3 : IC := (.cond (.t 9) .ret .skip)
def o22_4 : List IOp := [⟨some 9, .pu (.pick (.t 6) (.c (.b true)) (.t 8)), none⟩] ++ []
def o22_5 : List IOp := [⟨some 7, .pu (.mov (.t 1)), some (6, false)⟩, ⟨some 8, .pu (.eqz false .p (.t 7) (.c (.p none))), some (6, false)⟩] ++ o22_4
def o22_6 : List IOp := [⟨some 4, .pu (.mov (.t 0)), none⟩, ⟨some 5, .pu (.eqz false .p (.t 4) (.c (.p none))), none⟩, ⟨some 6, .pu (.mov (.t 5)), none⟩] ++ o22_5
def c22 : IC := (.seq (.seq (.region o22_6) c22_3) c22_1)
def ir22 : IFn := { ntmps := 28, results := rs22, body := c22 }
/-! (*cableway/post.Post).Twice -/
def rs23 : List RV := []
def c23 : IC := (.seq (.region [⟨some 2, .pu (.mov (.t 0)), none⟩, ⟨some 3, .pu (.eqz true .p (.t 2) (.c (.p none))), none⟩]) (.cond (.t 3) (.region [⟨some 4, .pu (.mov (.t 0)), none⟩, ⟨some 5, .pu (.nilc (.t 4)), none⟩, ⟨some 6, .pu (.fa 8 (.t 5)), none⟩, ⟨none, .ef (.store 1 (.t 6) (.c (.b true))), none⟩]) .skip))
def ir23 : IFn := { ntmps := 7, results := rs23, body := c23 }
/-! cableway/server.New -/
def rs24 : List RV := [(.t 2)]
def c24_1 : IC := (.seq (.region [⟨some 29, .pu (.mov (.t 3)), none⟩, ⟨some 2, .pu (.mov (.t 29)), none⟩]) .ret)
def c24_2 : IC := (.seq (.region [⟨some 15, .pu (.bin .lss (.t 14) (.t 13)), none⟩]) (.seq (.cond (.t 15) .skip (.exit 0)) (.seq (.block 1 (.draw [⟨some 16, .pu (.mov (.t 3)), none⟩, ⟨some 17, .pu (.mov (.t 3)), none⟩, ⟨some 18, .pu (.nilc (.t 17)), none⟩, ⟨some 19, .pu (.fa 4 (.t 18)), none⟩, ⟨some 20, .ld false 1 (.t 19), none⟩, ⟨some 21, .pu (.fa 1 (.t 1)), none⟩, ⟨some 22, .ld false 1 (.t 21), none⟩, ⟨some 23, .ef (.call 81 [(.t 22)]), none⟩, ⟨some 24, .al (.sl 1 [(.p none)] [(0, 1, (.t 23))]), none⟩, ⟨some 25, .ef (.app 1 8 (.t 20) (.t 24)), none⟩, ⟨some 26, .pu (.nilc (.t 16)), none⟩, ⟨some 27, .pu (.fa 4 (.t 26)), none⟩, ⟨none, .ef (.store 1 (.t 27) (.t 25)), none⟩] [(4, 7)])) (.region [⟨some 28, .pu (.bin .add (.t 14) (.c (.i .i64 1))), none⟩, ⟨some 14, .pu (.mov (.t 28)), none⟩]))))
def c24 : IC := (.seq (.region [⟨some 1, .al (.box (.t 0)), none⟩, ⟨some 2, .pu (.mov (.c (.p none))), none⟩]) (.seq (.draw [⟨some 4, .ld true 4 (.t 1), none⟩, ⟨some 5, .pu (.fa 2 (.t 1)), none⟩, ⟨some 6, .ld false 1 (.t 5), none⟩, ⟨some 7, .ef (.call 80 [(.t 6)]), none⟩, ⟨some 8, .pu (.bld [(.i .i64 0), (.i .i64 0), (.i .i64 0), (.i .i64 0), .nsl, (.p none), (.i .u32 0), .nsl, .nsl, .nsl, .nsl, .nsl] [(0, 4, (.t 4)), (5, 1, (.t 7))]), none⟩, ⟨some 9, .al (.box (.t 8)), none⟩, ⟨some 3, .pu (.mov (.t 9)), none⟩] [(0, 3)]) (.seq (.seq (.region [⟨some 10, .pu (.fa 0 (.t 1)), none⟩, ⟨some 11, .ld false 1 (.t 10), none⟩, ⟨some 12, .pu (.max (.t 11) [(.c (.i .i64 1))]), none⟩, ⟨some 13, .pu (.min (.t 12) [(.c (.i .i64 4))]), none⟩, ⟨some 14, .pu (.mov (.c (.i .i64 0))), none⟩]) (.block 0 (.loop c24_2))) c24_1)))
def ir24 : IFn := { ntmps := 30, results := rs24, body := c24 }
/-! (*cableway/post.Post).Drop -/
def rs25 : List RV := [(.t 4)]
def c25_1 : IC := (.seq (.region [⟨some 22, .pu (.mov (.t 0)), none⟩, ⟨some 23, .pu (.nilc (.t 22)), none⟩, ⟨some 24, .pu (.fa 0 (.t 23)), none⟩, ⟨some 25, .ld false 1 (.t 24), none⟩, ⟨some 26, .pu (.mov (.t 1)), none⟩, ⟨some 27, .ef (.call 82 [(.t 25), (.t 26)]), none⟩, ⟨some 4, .pu (.mov (.t 27)), none⟩]) .ret)
def c25_2 : IC := (.cond (.t 21) (.seq (.region [⟨some 4, .pu (.mov (.c (.b false))), none⟩]) .ret) .skip)
def o25_3 : List IOp := [⟨some 21, .pu (.pick (.t 7) (.c (.b true)) (.t 20)), none⟩] ++ []
def o25_4 : List IOp := [⟨some 20, .pu (.pick (.t 13) (.t 19) (.c (.b false))), some (7, false)⟩] ++ o25_3
def o25_5 : List IOp := [⟨some 14, .pu (.mov (.t 0)), some (13, true)⟩, ⟨some 15, .pu (.nilc (.t 14)), some (13, true)⟩, ⟨some 16, .pu (.fa 27 (.t 15)), some (13, true)⟩, ⟨some 17, .ld false 1 (.t 16), some (13, true)⟩, ⟨some 18, .pu (.mov (.t 1)), some (13, true)⟩, ⟨some 19, .pu (.bin .eql (.t 17) (.t 18)), some (13, true)⟩] ++ o25_4
def o25_6 : List IOp := [⟨some 8, .pu (.mov (.t 0)), some (7, false)⟩, ⟨some 9, .pu (.nilc (.t 8)), some (7, false)⟩, ⟨some 10, .pu (.fa 9 (.t 9)), some (7, false)⟩, ⟨some 11, .ld false 1 (.t 10), some (7, false)⟩, ⟨some 12, .pu (.bin .eql (.t 11) (.c (.i .i64 2))), some (7, false)⟩, ⟨some 13, .pu (.mov (.t 12)), some (7, false)⟩] ++ o25_5
def o25_7 : List IOp := [⟨some 5, .pu (.mov (.t 0)), none⟩, ⟨some 6, .pu (.eqz false .p (.t 5) (.c (.p none))), none⟩, ⟨some 7, .pu (.mov (.t 6)), none⟩] ++ o25_6
def c25 : IC := (.seq (.region [⟨some 4, .pu (.mov (.c (.b false))), none⟩]) (.seq (.seq (.region o25_7) c25_2) c25_1))
def ir25 : IFn := { ntmps := 28, results := rs25, body := c25 }
/-! (*cableway/arena.Arena).Touched -/
def rs26 : List RV := [(.t 2)]
def c26 : IC := (.seq (.region [⟨some 2, .pu (.mov (.c .nsl)), none⟩]) (.seq (.seq (.region [⟨some 3, .pu (.mov (.t 0)), none⟩, ⟨some 4, .pu (.eqz false .p (.t 3) (.c (.p none))), none⟩]) (.cond (.t 4) (.seq (.region [⟨some 2, .pu (.mov (.c .nsl)), none⟩]) .ret) .skip)) (.seq (.region [⟨some 5, .pu (.mov (.t 0)), none⟩, ⟨some 6, .pu (.nilc (.t 5)), none⟩, ⟨some 7, .pu (.fa 1 (.t 6)), none⟩, ⟨some 8, .ld false 1 (.t 7), none⟩, ⟨some 9, .ef (.call 83 [(.t 8)]), none⟩, ⟨some 2, .pu (.mov (.t 9)), none⟩]) .ret)))
def ir26 : IFn := { ntmps := 10, results := rs26, body := c26 }
/-! cableway/post.New -/
def rs27 : List RV := [(.t 6)]
def c27_1 : IC := (.seq (.draw [⟨some 20, .pu (.mov (.t 0)), none⟩, ⟨some 21, .ld true 2 (.t 4), none⟩, ⟨some 22, .pu (.mov (.t 2)), none⟩, ⟨some 23, .ef (.call 84 [(.t 22)]), none⟩, ⟨some 24, .pu (.mov (.t 7)), none⟩, ⟨some 25, .al (.mks 8 [(.i .u64 0)] (.t 24)), none⟩, ⟨some 26, .pu (.bld [(.p none), (.i .i64 0), (.i .i64 0), .nsl, (.i .u64 0), .nsl, (.i .i64 0), (.b false), (.b false), (.i .i64 0), (.i .i64 0), (.i .i64 0), (.i .u64 0), (.i .u64 0), (.i .u64 0), (.i .u64 0), (.i .i64 0), (.b false), (.i .i64 0), (.i .i64 0), (.i .u64 0), (.i .u64 0), (.i .u64 0), (.i .u64 0), (.i .i64 0), (.b false), (.b false), (.i .i64 0), (.i .i64 0)] [(0, 1, (.t 20)), (1, 2, (.t 21)), (3, 1, (.t 23)), (5, 1, (.t 25))]), none⟩, ⟨some 27, .al (.box (.t 26)), none⟩, ⟨some 6, .pu (.mov (.t 27)), none⟩] [(1, 3)]) .ret)
def c27_2 : IC := (.cond (.t 19) (.seq (.region [⟨some 6, .pu (.mov (.c (.p none))), none⟩]) .ret) .skip)
def o27_3 : List IOp := [⟨some 19, .pu (.pick (.t 16) (.c (.b true)) (.t 18)), none⟩] ++ []
def o27_4 : List IOp := [⟨some 17, .pu (.mov (.t 7)), some (16, false)⟩, ⟨some 18, .pu (.bin .gtr (.t 17) (.c (.i .i64 4))), some (16, false)⟩] ++ o27_3
def o27_5 : List IOp := [⟨some 15, .pu (.pick (.t 12) (.c (.b true)) (.t 14)), none⟩, ⟨some 16, .pu (.mov (.t 15)), none⟩] ++ o27_4
def o27_6 : List IOp := [⟨some 13, .pu (.mov (.t 7)), some (12, false)⟩, ⟨some 14, .pu (.bin .lss (.t 13) (.c (.i .i64 1))), some (12, false)⟩] ++ o27_5
def o27_7 : List IOp := [⟨some 10, .pu (.mov (.t 0)), none⟩, ⟨some 11, .pu (.eqz false .p (.t 10) (.c (.p none))), none⟩, ⟨some 12, .pu (.mov (.t 11)), none⟩] ++ o27_6
def c27 : IC := (.seq (.region [⟨some 4, .al (.box (.t 1)), none⟩, ⟨some 6, .pu (.mov (.c (.p none))), none⟩]) (.seq (.region [⟨some 8, .pu (.mov (.t 2)), none⟩, ⟨some 9, .pu (.lens (.t 8)), none⟩, ⟨some 7, .pu (.mov (.t 9)), none⟩]) (.seq (.seq (.region o27_7) c27_2) c27_1)))
def ir27 : IFn := { ntmps := 28, results := rs27, body := c27 }
/-! cableway/ring.Init -/
def rs58 : List RV := [(.t 4)]
def c58_2 : IC := (.seq (.region [⟨some 4, .pu (.mov (.c (.i .i64 0))), none⟩]) .ret)
def c58_4 : IC := (.region [⟨some 51, .pu (.bin .add (.t 27) (.c (.i .i64 1))), none⟩, ⟨some 27, .pu (.mov (.t 51)), none⟩])
def c58_5 : IC := (.seq (.region [⟨some 39, .pu (.bin .lss (.t 38) (.c (.i .i64 3))), none⟩]) (.seq (.cond (.t 39) .skip (.exit 2)) (.seq (.block 3 (.seq (.region [⟨some 40, .pu (.mov (.t 38)), none⟩, ⟨some 6, .pu (.mov (.t 40)), none⟩]) (.region [⟨some 41, .pu (.mov (.t 0)), none⟩, ⟨some 42, .ld true 2 (.t 3), none⟩, ⟨some 43, .pu (.mov (.t 5)), none⟩, ⟨some 44, .pu (.cvi .u64 (.t 43)), none⟩, ⟨some 45, .ef (.call 106 [(.t 42), (.t 44)]), none⟩, ⟨some 46, .pu (.bin .add (.t 45) (.c (.i .i64 1))), none⟩, ⟨some 47, .pu (.mov (.t 6)), none⟩, ⟨some 48, .pu (.bin .add (.t 46) (.t 47)), none⟩, ⟨some 49, .ef (.call 85 [(.t 41), (.t 48), (.c (.i .u64 0))]), none⟩]))) (.region [⟨some 50, .pu (.bin .add (.t 38) (.c (.i .i64 1))), none⟩, ⟨some 38, .pu (.mov (.t 50)), none⟩]))))
def c58_3 : IC := (.seq (.region [⟨some 28, .pu (.bin .lss (.t 27) (.t 26)), none⟩]) (.seq (.cond (.t 28) .skip (.exit 0)) (.seq (.block 1 (.seq (.region [⟨some 29, .pu (.mov (.t 27)), none⟩, ⟨some 5, .pu (.mov (.t 29)), none⟩]) (.seq (.region [⟨some 30, .pu (.mov (.t 0)), none⟩, ⟨some 31, .ld true 2 (.t 3), none⟩, ⟨some 32, .pu (.mov (.t 5)), none⟩, ⟨some 33, .pu (.cvi .u64 (.t 32)), none⟩, ⟨some 34, .ef (.call 106 [(.t 31), (.t 33)]), none⟩, ⟨some 35, .pu (.mov (.t 5)), none⟩, ⟨some 36, .pu (.cvi .u64 (.t 35)), none⟩, ⟨some 37, .ef (.call 85 [(.t 30), (.t 34), (.t 36)]), none⟩]) (.seq (.region [⟨some 38, .pu (.mov (.c (.i .i64 0))), none⟩]) (.block 2 (.loop c58_5)))))) c58_4)))
def c58_1 : IC := (.seq (.region [⟨some 21, .pu (.mov (.t 0)), none⟩, ⟨some 22, .pu (.fa 0 (.t 3)), none⟩, ⟨some 23, .ld false 1 (.t 22), none⟩, ⟨some 24, .ef (.call 85 [(.t 21), (.t 23), (.c (.i .u64 0))]), none⟩]) (.seq (.seq (.region [⟨some 25, .pu (.fa 1 (.t 3)), none⟩, ⟨some 26, .ld false 1 (.t 25), none⟩, ⟨some 27, .pu (.mov (.c (.i .i64 0))), none⟩]) (.block 0 (.loop c58_3))) c58_2))
def c58_6 : IC := (.cond (.t 20) (.seq (.region [⟨some 4, .pu (.mov (.c (.i .i64 1))), none⟩]) .ret) .skip)
def o58_7 : List IOp := [⟨some 20, .pu (.pick (.t 10) (.c (.b true)) (.t 19)), none⟩] ++ []
def o58_8 : List IOp := [⟨some 11, .pu (.fa 0 (.t 3)), some (10, false)⟩, ⟨some 12, .ld false 1 (.t 11), some (10, false)⟩, ⟨some 13, .pu (.fa 1 (.t 3)), some (10, false)⟩, ⟨some 14, .ld false 1 (.t 13), some (10, false)⟩, ⟨some 15, .ef (.call 104 [(.t 14)]), some (10, false)⟩, ⟨some 16, .pu (.bin .add (.t 12) (.t 15)), some (10, false)⟩, ⟨some 17, .pu (.mov (.t 0)), some (10, false)⟩, ⟨some 18, .ef (.call 105 [(.t 17)]), some (10, false)⟩, ⟨some 19, .pu (.bin .gtr (.t 16) (.t 18)), some (10, false)⟩] ++ o58_7
def o58_9 : List IOp := [⟨some 7, .ld true 2 (.t 3), none⟩, ⟨some 8, .ef (.call 103 [(.t 7)]), none⟩, ⟨some 9, .pu (.un .not (.t 8)), none⟩, ⟨some 10, .pu (.mov (.t 9)), none⟩] ++ o58_8
def c58 : IC := (.seq (.region [⟨some 3, .al (.box (.t 1)), none⟩, ⟨some 4, .pu (.mov (.c (.i .i64 0))), none⟩]) (.seq (.seq (.draw o58_9 [(5, 8), (5, 11)]) c58_6) c58_1))
def ir58 : IFn := { ntmps := 52, results := rs58, body := c58 }
/-! cableway/frame.Put -/
def rs60 : List RV := [(.c 2 true 3), (.t 3)]
def c60 : IC := (.seq (.region [⟨some 1, .al (.box (.t 0)), none⟩, ⟨some 2, .al (.zero [(.i .u64 0), (.i .u64 0), (.i .u64 0)]), none⟩, ⟨some 3, .pu (.mov (.c (.b false))), none⟩]) (.seq (.seq (.region [⟨some 5, .ld true 11 (.t 1), none⟩, ⟨some 6, .ef (.call 107 [(.t 5)]), none⟩, ⟨some 7, .pu (.un .not (.t 6)), none⟩]) (.cond (.t 7) (.seq (.region [⟨some 8, .pu (.bld [(.i .u64 0), (.i .u64 0), (.i .u64 0)] []), none⟩, ⟨none, .ef (.store 3 (.t 2) (.t 8)), none⟩, ⟨some 3, .pu (.mov (.c (.b false))), none⟩]) .ret) .skip)) (.seq (.region [⟨some 9, .ld true 2 (.g 0), none⟩, ⟨some 10, .pu (.fa 0 (.t 1)), none⟩, ⟨some 11, .ld false 1 (.t 10), none⟩, ⟨some 12, .pu (.cvi .u64 (.t 11)), none⟩, ⟨some 13, .ef (.call 108 [(.t 9), (.c (.i .u64 0)), (.t 12)]), none⟩, ⟨some 4, .pu (.mov (.t 13)), none⟩]) (.seq (.region [⟨some 14, .ld true 2 (.g 1), none⟩, ⟨some 15, .pu (.mov (.t 4)), none⟩, ⟨some 16, .pu (.fa 1 (.t 1)), none⟩, ⟨some 17, .ld false 1 (.t 16), none⟩, ⟨some 18, .pu (.cvi .u64 (.t 17)), none⟩, ⟨some 19, .ef (.call 108 [(.t 14), (.t 15), (.t 18)]), none⟩, ⟨some 4, .pu (.mov (.t 19)), none⟩]) (.seq (.region [⟨some 20, .ld true 2 (.g 2), none⟩, ⟨some 21, .pu (.mov (.t 4)), none⟩, ⟨some 22, .pu (.fa 2 (.t 1)), none⟩, ⟨some 23, .ld false 1 (.t 22), none⟩, ⟨some 24, .pu (.cvi .u64 (.t 23)), none⟩, ⟨some 25, .ef (.call 108 [(.t 20), (.t 21), (.t 24)]), none⟩, ⟨some 4, .pu (.mov (.t 25)), none⟩]) (.seq (.region [⟨some 26, .ld true 2 (.g 3), none⟩, ⟨some 27, .pu (.mov (.t 4)), none⟩, ⟨some 28, .pu (.fa 3 (.t 1)), none⟩, ⟨some 29, .ld false 1 (.t 28), none⟩, ⟨some 30, .pu (.cvi .u64 (.t 29)), none⟩, ⟨some 31, .ef (.call 108 [(.t 26), (.t 27), (.t 30)]), none⟩, ⟨some 4, .pu (.mov (.t 31)), none⟩]) (.seq (.region [⟨some 32, .ld true 2 (.g 4), none⟩, ⟨some 33, .pu (.mov (.t 4)), none⟩, ⟨some 34, .pu (.fa 6 (.t 1)), none⟩, ⟨some 35, .ld false 1 (.t 34), none⟩, ⟨some 36, .pu (.cvi .u64 (.t 35)), none⟩, ⟨some 37, .ef (.call 108 [(.t 32), (.t 33), (.t 36)]), none⟩, ⟨some 4, .pu (.mov (.t 37)), none⟩]) (.seq (.draw [⟨some 38, .ld true 2 (.g 5), none⟩, ⟨some 39, .pu (.mov (.t 4)), none⟩, ⟨some 40, .pu (.fa 7 (.t 1)), none⟩, ⟨some 41, .ld false 1 (.t 40), none⟩, ⟨some 42, .ef (.call 109 [(.t 41)]), none⟩, ⟨some 43, .ef (.call 108 [(.t 38), (.t 39), (.t 42)]), none⟩, ⟨some 4, .pu (.mov (.t 43)), none⟩] [(0, 4)]) (.seq (.draw [⟨some 44, .ld true 2 (.g 6), none⟩, ⟨some 45, .pu (.mov (.t 4)), none⟩, ⟨some 46, .pu (.fa 8 (.t 1)), none⟩, ⟨some 47, .ld false 1 (.t 46), none⟩, ⟨some 48, .ef (.call 109 [(.t 47)]), none⟩, ⟨some 49, .ef (.call 108 [(.t 44), (.t 45), (.t 48)]), none⟩, ⟨some 4, .pu (.mov (.t 49)), none⟩] [(0, 4)]) (.seq (.region [⟨some 50, .ld true 2 (.g 7), none⟩, ⟨some 51, .pu (.mov (.t 4)), none⟩, ⟨some 52, .pu (.fa 4 (.t 1)), none⟩, ⟨some 53, .ld false 1 (.t 52), none⟩, ⟨some 54, .pu (.cvi .u64 (.t 53)), none⟩, ⟨some 55, .ef (.call 108 [(.t 50), (.t 51), (.t 54)]), none⟩, ⟨some 4, .pu (.mov (.t 55)), none⟩]) (.seq (.draw [⟨some 56, .pu (.mov (.t 4)), none⟩, ⟨some 57, .ld true 2 (.g 8), none⟩, ⟨some 58, .pu (.fa 5 (.t 1)), none⟩, ⟨some 59, .ld false 1 (.t 58), none⟩, ⟨some 60, .pu (.cvi .u64 (.t 59)), none⟩, ⟨some 61, .pu (.fa 10 (.t 1)), none⟩, ⟨some 62, .ld false 1 (.t 61), none⟩, ⟨some 63, .pu (.cvi .u64 (.t 62)), none⟩, ⟨some 64, .ef (.call 108 [(.t 57), (.t 60), (.t 63)]), none⟩, ⟨some 65, .pu (.fa 9 (.t 1)), none⟩, ⟨some 66, .ld false 1 (.t 65), none⟩, ⟨some 67, .pu (.cvi .u64 (.t 66)), none⟩, ⟨some 68, .pu (.bld [(.i .u64 0), (.i .u64 0), (.i .u64 0)] [(0, 1, (.t 56)), (1, 1, (.t 64)), (2, 1, (.t 67))]), none⟩, ⟨none, .ef (.store 3 (.t 2) (.t 68)), none⟩, ⟨some 3, .pu (.mov (.c (.b true))), none⟩] [(10, 8)]) .ret)))))))))))
def ir60 : IFn := { ntmps := 69, results := rs60, body := c60 }
/-! cableway/send.New -/
def rs61 : List RV := [(.c 4 true 9)]
def c61 : IC := (.seq (.region [⟨some 2, .al (.box (.t 0)), none⟩, ⟨some 3, .al (.box (.t 1)), none⟩, ⟨some 4, .al (.zero [(.i .i64 0), (.i .i64 0), (.i .u64 0), (.i .u64 0), (.i .u64 0), (.i .u64 0), (.i .i64 0), (.b false), (.b false)]), none⟩]) (.seq (.region [⟨some 5, .ld true 2 (.t 2), none⟩, ⟨some 6, .ld true 3 (.t 3), none⟩, ⟨some 7, .pu (.bld [(.i .i64 0), (.i .i64 0), (.i .u64 0), (.i .u64 0), (.i .u64 0), (.i .u64 0), (.i .i64 0), (.b false), (.b false)] [(0, 2, (.t 5)), (2, 3, (.t 6))]), none⟩, ⟨none, .ef (.store 9 (.t 4) (.t 7)), none⟩]) .ret))
def ir61 : IFn := { ntmps := 8, results := rs61, body := c61 }
/-! (cableway/send.Task).Step -/
def rs62 : List RV := [(.c 4 true 9)]
def c62_1 : IC := (.seq (.region [⟨some 89, .ld true 9 (.t 2), none⟩, ⟨none, .ef (.store 9 (.t 4) (.t 89)), none⟩]) .ret)
def c62 : IC := (.seq (.region [⟨some 2, .al (.box (.t 0)), none⟩, ⟨some 4, .al (.zero [(.i .i64 0), (.i .i64 0), (.i .u64 0), (.i .u64 0), (.i .u64 0), (.i .u64 0), (.i .i64 0), (.b false), (.b false)]), none⟩]) (.seq (.seq (.region [⟨some 9, .ld true 9 (.t 2), none⟩, ⟨some 10, .ef (.call 63 [(.t 9)]), none⟩, ⟨some 8, .pu (.mov (.t 10)), none⟩, ⟨some 11, .pu (.ext (.t 8) 0), none⟩, ⟨some 12, .pu (.ext (.t 8) 1), none⟩, ⟨some 5, .pu (.mov (.t 11)), none⟩, ⟨some 6, .pu (.mov (.t 12)), none⟩]) (.seq (.region [⟨some 13, .pu (.mov (.t 6)), none⟩]) (.cond (.t 13) (.seq (.region [⟨some 14, .ld true 9 (.t 2), none⟩, ⟨none, .ef (.store 9 (.t 4) (.t 14)), none⟩]) .ret) .skip))) (.seq (.seq (.region [⟨some 15, .pu (.fa 0 (.t 2)), none⟩, ⟨some 16, .ld true 2 (.t 15), none⟩, ⟨some 17, .ef (.call 103 [(.t 16)]), none⟩, ⟨some 18, .pu (.un .not (.t 17)), none⟩]) (.cond (.t 18) (.seq (.region [⟨some 19, .pu (.fa 8 (.t 2)), none⟩, ⟨none, .ef (.store 1 (.t 19) (.c (.b true))), none⟩]) (.seq (.region [⟨some 20, .ld true 9 (.t 2), none⟩, ⟨none, .ef (.store 9 (.t 4) (.t 20)), none⟩]) .ret)) .skip)) (.seq (.seq (.region [⟨some 21, .pu (.fa 6 (.t 2)), none⟩, ⟨some 22, .ld false 1 (.t 21), none⟩]) (.block 0 (.seq (.region [⟨some 43, .pu (.bin .eql (.t 22) (.c (.i .i64 0))), none⟩, ⟨some 42, .pu (.mov (.t 43)), none⟩]) (.cond (.t 42) (.region [⟨some 44, .pu (.mov (.t 1)), none⟩, ⟨some 45, .pu (.fa 0 (.t 2)), none⟩, ⟨some 46, .ld true 2 (.t 45), none⟩, ⟨some 47, .ef (.call 111 [(.t 46)]), none⟩, ⟨some 48, .ef (.call 110 [(.t 44), (.t 47)]), none⟩, ⟨some 49, .pu (.fa 5 (.t 2)), none⟩, ⟨none, .ef (.store 1 (.t 49) (.t 48)), none⟩, ⟨some 50, .pu (.fa 6 (.t 2)), none⟩, ⟨none, .ef (.store 1 (.t 50) (.c (.i .i64 1))), none⟩]) (.seq (.region [⟨some 52, .pu (.bin .eql (.t 22) (.c (.i .i64 1))), none⟩, ⟨some 51, .pu (.mov (.t 52)), none⟩]) (.cond (.t 51) (.draw [⟨some 53, .ld true 9 (.t 2), none⟩, ⟨some 54, .pu (.mov (.t 1)), none⟩, ⟨some 55, .pu (.fa 0 (.t 2)), none⟩, ⟨some 56, .ld true 2 (.t 55), none⟩, ⟨some 57, .pu (.fa 5 (.t 2)), none⟩, ⟨some 58, .ld false 1 (.t 57), none⟩, ⟨some 59, .ef (.call 113 [(.t 56), (.t 58)]), none⟩, ⟨some 60, .ef (.call 110 [(.t 54), (.t 59)]), none⟩, ⟨some 61, .ef (.call 112 [(.t 53), (.t 60)]), none⟩, ⟨none, .ef (.store 9 (.t 2) (.t 61)), none⟩] [(0, 6), (0, 7)]) (.seq (.region [⟨some 63, .pu (.bin .eql (.t 22) (.c (.i .i64 2))), none⟩, ⟨some 62, .pu (.mov (.t 63)), none⟩]) (.cond (.t 62) (.seq (.region [⟨some 64, .pu (.fa 6 (.t 2)), none⟩, ⟨none, .ef (.store 1 (.t 64) (.c (.i .i64 0))), none⟩]) (.seq (.draw [⟨some 65, .pu (.mov (.t 1)), none⟩, ⟨some 66, .pu (.fa 0 (.t 2)), none⟩, ⟨some 67, .ld true 2 (.t 66), none⟩, ⟨some 68, .ef (.call 111 [(.t 67)]), none⟩, ⟨some 69, .pu (.fa 5 (.t 2)), none⟩, ⟨some 70, .ld false 1 (.t 69), none⟩, ⟨some 71, .pu (.fa 5 (.t 2)), none⟩, ⟨some 72, .ld false 1 (.t 71), none⟩, ⟨some 73, .pu (.bin .add (.t 72) (.c (.i .u64 1))), none⟩, ⟨some 74, .ef (.call 114 [(.t 65), (.t 68), (.t 70), (.t 73)]), none⟩] [(5, 3), (7, 3)]) (.cond (.t 74) (.region [⟨some 75, .pu (.fa 6 (.t 2)), none⟩, ⟨none, .ef (.store 1 (.t 75) (.c (.i .i64 3))), none⟩]) .skip))) (.seq (.region [⟨some 77, .pu (.bin .eql (.t 22) (.c (.i .i64 6))), none⟩, ⟨some 76, .pu (.mov (.t 77)), none⟩]) (.cond (.t 76) (.seq (.draw [⟨some 78, .pu (.mov (.t 1)), none⟩, ⟨some 79, .pu (.fa 0 (.t 2)), none⟩, ⟨some 80, .ld true 2 (.t 79), none⟩, ⟨some 81, .pu (.fa 5 (.t 2)), none⟩, ⟨some 82, .ld false 1 (.t 81), none⟩, ⟨some 83, .ef (.call 113 [(.t 80), (.t 82)]), none⟩, ⟨some 84, .pu (.fa 5 (.t 2)), none⟩, ⟨some 85, .ld false 1 (.t 84), none⟩, ⟨some 86, .pu (.bin .add (.t 85) (.c (.i .u64 1))), none⟩, ⟨some 87, .ef (.call 85 [(.t 78), (.t 83), (.t 86)]), none⟩] [(7, 5)]) (.region [⟨some 88, .pu (.fa 6 (.t 2)), none⟩, ⟨none, .ef (.store 1 (.t 88) (.c (.i .i64 7))), none⟩])) (.seq (.region [⟨some 23, .pu (.fa 6 (.t 2)), none⟩, ⟨some 24, .ld false 1 (.t 23), none⟩, ⟨some 25, .pu (.bin .sub (.t 24) (.c (.i .i64 3))), none⟩, ⟨some 7, .pu (.mov (.t 25)), none⟩]) (.seq (.draw [⟨some 26, .pu (.mov (.t 1)), none⟩, ⟨some 27, .pu (.fa 0 (.t 2)), none⟩, ⟨some 28, .ld true 2 (.t 27), none⟩, ⟨some 29, .pu (.fa 5 (.t 2)), none⟩, ⟨some 30, .ld false 1 (.t 29), none⟩, ⟨some 31, .pu (.mov (.t 7)), none⟩, ⟨some 32, .ef (.call 115 [(.t 28), (.t 30), (.t 31)]), none⟩, ⟨some 33, .pu (.mov (.t 7)), none⟩, ⟨some 34, .pu (.fa 2 (.t 2)), none⟩, ⟨some 35, .pu (.iaa 1 3 (.t 34) (.t 33)), none⟩, ⟨some 36, .ld false 1 (.t 35), none⟩, ⟨some 37, .ef (.call 85 [(.t 26), (.t 32), (.t 36)]), none⟩] [(10, 6)]) (.region [⟨some 38, .pu (.fa 6 (.t 2)), none⟩, ⟨some 39, .ld false 1 (.t 38), none⟩, ⟨some 40, .pu (.bin .add (.t 39) (.c (.i .i64 1))), none⟩, ⟨some 41, .pu (.fa 6 (.t 2)), none⟩, ⟨none, .ef (.store 1 (.t 41) (.t 40)), none⟩]))))))))))))) c62_1))))
def ir62 : IFn := { ntmps := 90, results := rs62, body := c62 }
/-! (cableway/send.Task).Done -/
def rs63 : List RV := [(.t 2), (.t 3)]
def c63 : IC := (.seq (.region [⟨some 1, .al (.box (.t 0)), none⟩, ⟨some 2, .pu (.mov (.c (.i .i64 0))), none⟩, ⟨some 3, .pu (.mov (.c (.b false))), none⟩]) (.seq (.block 0 (.seq (.region [⟨some 5, .pu (.fa 8 (.t 1)), none⟩, ⟨some 6, .ld false 1 (.t 5), none⟩, ⟨some 4, .pu (.mov (.t 6)), none⟩]) (.cond (.t 4) (.seq (.region [⟨some 2, .pu (.mov (.c (.i .i64 3))), none⟩, ⟨some 3, .pu (.mov (.c (.b true))), none⟩]) .ret) (.seq (.region [⟨some 8, .pu (.fa 6 (.t 1)), none⟩, ⟨some 9, .ld false 1 (.t 8), none⟩, ⟨some 10, .pu (.bin .eql (.t 9) (.c (.i .i64 7))), none⟩, ⟨some 7, .pu (.mov (.t 10)), none⟩]) (.cond (.t 7) (.seq (.region [⟨some 2, .pu (.mov (.c (.i .i64 0))), none⟩, ⟨some 3, .pu (.mov (.c (.b true))), none⟩]) .ret) .skip))))) (.seq (.region [⟨some 2, .pu (.mov (.c (.i .i64 0))), none⟩, ⟨some 3, .pu (.mov (.c (.b false))), none⟩]) .ret)))
def ir63 : IFn := { ntmps := 11, results := rs63, body := c63 }
/-! (*cableway/arena.Arena).Begin -/
def rs64 : List RV := []
def c64 : IC := (.seq (.region [⟨some 2, .pu (.mov (.t 0)), none⟩, ⟨some 3, .pu (.eqz true .p (.t 2) (.c (.p none))), none⟩]) (.cond (.t 3) (.region [⟨some 4, .pu (.mov (.t 0)), none⟩, ⟨some 5, .pu (.nilc (.t 4)), none⟩, ⟨some 6, .pu (.fa 1 (.t 5)), none⟩, ⟨none, .ef (.store 1 (.t 6) (.c .nsl)), none⟩]) .skip))
def ir64 : IFn := { ntmps := 7, results := rs64, body := c64 }
/-! cableway/server.client -/
def rs65 : List RV := [(.t 2)]
def o65_1 : List IOp := [⟨some 8, .pu (.pick (.t 5) (.t 7) (.c (.b false))), none⟩, ⟨some 2, .pu (.mov (.t 8)), none⟩] ++ []
def o65_2 : List IOp := [⟨some 6, .pu (.mov (.t 0)), some (5, true)⟩, ⟨some 7, .pu (.bin .lss (.t 6) (.c (.i .i64 4))), some (5, true)⟩] ++ o65_1
def o65_3 : List IOp := [⟨some 3, .pu (.mov (.t 0)), none⟩, ⟨some 4, .pu (.bin .geq (.t 3) (.c (.i .i64 0))), none⟩, ⟨some 5, .pu (.mov (.t 4)), none⟩] ++ o65_2
def c65 : IC := (.seq (.region [⟨some 2, .pu (.mov (.c (.b false))), none⟩]) (.seq (.region o65_3) .ret))
def ir65 : IFn := { ntmps := 9, results := rs65, body := c65 }
/-! (*cableway/worker.Worker).Job -/
def rs66 : List RV := [(.c 2 true 11), (.t 3)]
def c66_1 : IC := (.seq (.region [⟨some 14, .pu (.mov (.t 0)), none⟩, ⟨some 15, .pu (.nilc (.t 14)), none⟩, ⟨some 16, .pu (.fa 3 (.t 15)), none⟩, ⟨some 17, .ld true 11 (.t 16), none⟩, ⟨none, .ef (.store 11 (.t 2) (.t 17)), none⟩, ⟨some 3, .pu (.mov (.c (.b true))), none⟩]) .ret)
def c66_2 : IC := (.cond (.t 12) (.seq (.region [⟨some 13, .pu (.bld [(.i .i64 0), (.i .i64 0), (.i .i64 0), (.i .i64 0), (.i .i64 0), (.i .u32 0), (.i .i64 0), (.b false), (.b false), (.i .i64 0), (.i .u32 0)] []), none⟩, ⟨none, .ef (.store 11 (.t 2) (.t 13)), none⟩, ⟨some 3, .pu (.mov (.c (.b false))), none⟩]) .ret) .skip)
def o66_3 : List IOp := [⟨some 12, .pu (.pick (.t 6) (.c (.b true)) (.t 11)), none⟩] ++ []
def o66_4 : List IOp := [⟨some 7, .pu (.mov (.t 0)), some (6, false)⟩, ⟨some 8, .pu (.nilc (.t 7)), some (6, false)⟩, ⟨some 9, .pu (.fa 2 (.t 8)), some (6, false)⟩, ⟨some 10, .ld false 1 (.t 9), some (6, false)⟩, ⟨some 11, .pu (.un .not (.t 10)), some (6, false)⟩] ++ o66_3
def o66_5 : List IOp := [⟨some 4, .pu (.mov (.t 0)), none⟩, ⟨some 5, .pu (.eqz false .p (.t 4) (.c (.p none))), none⟩, ⟨some 6, .pu (.mov (.t 5)), none⟩] ++ o66_4
def c66 : IC := (.seq (.region [⟨some 2, .al (.zero [(.i .i64 0), (.i .i64 0), (.i .i64 0), (.i .i64 0), (.i .i64 0), (.i .u32 0), (.i .i64 0), (.b false), (.b false), (.i .i64 0), (.i .u32 0)]), none⟩, ⟨some 3, .pu (.mov (.c (.b false))), none⟩]) (.seq (.seq (.region o66_5) c66_2) c66_1))
def ir66 : IFn := { ntmps := 18, results := rs66, body := c66 }
/-! (*cableway/worker.Worker).Begin -/
def rs67 : List RV := [(.t 4)]
def c67_1 : IC := (.seq (.draw [⟨some 21, .pu (.mov (.t 0)), none⟩, ⟨some 22, .pu (.mov (.t 0)), none⟩, ⟨some 23, .pu (.mov (.t 0)), none⟩, ⟨some 24, .pu (.nilc (.t 23)), none⟩, ⟨some 25, .pu (.fa 1 (.t 24)), none⟩, ⟨some 26, .ld false 1 (.t 25), none⟩, ⟨some 27, .pu (.ia 11 (.t 26) (.c (.i .i64 0))), none⟩, ⟨some 28, .ld true 11 (.t 27), none⟩, ⟨some 29, .pu (.mov (.t 0)), none⟩, ⟨some 30, .pu (.nilc (.t 29)), none⟩, ⟨some 31, .pu (.fa 1 (.t 30)), none⟩, ⟨some 32, .ld false 1 (.t 31), none⟩, ⟨some 33, .pu (.sls 11 (.t 32) (some (.c (.i .i64 1))) none none), none⟩, ⟨some 34, .ef (.call 71 [(.t 33)]), none⟩, ⟨some 35, .pu (.nilc (.t 21)), none⟩, ⟨some 36, .pu (.fa 3 (.t 35)), none⟩, ⟨none, .ef (.store 11 (.t 36) (.t 28)), none⟩, ⟨some 37, .pu (.nilc (.t 22)), none⟩, ⟨some 38, .pu (.fa 1 (.t 37)), none⟩, ⟨none, .ef (.store 1 (.t 38) (.t 34)), none⟩] [(5, 13), (7, 13)]) (.seq (.region [⟨some 39, .pu (.mov (.t 0)), none⟩, ⟨some 40, .pu (.nilc (.t 39)), none⟩, ⟨some 41, .pu (.fa 2 (.t 40)), none⟩, ⟨none, .ef (.store 1 (.t 41) (.c (.b true))), none⟩]) (.seq (.region [⟨some 42, .pu (.mov (.t 0)), none⟩, ⟨some 43, .pu (.bld [(.i .i64 0), (.i .i64 0)] []), none⟩, ⟨some 44, .pu (.mov (.t 1)), none⟩, ⟨some 45, .ef (.call 117 [(.t 44)]), none⟩, ⟨some 46, .ef (.call 116 [(.t 43), (.t 45)]), none⟩, ⟨some 47, .pu (.nilc (.t 42)), none⟩, ⟨some 48, .pu (.fa 14 (.t 47)), none⟩, ⟨none, .ef (.store 2 (.t 48) (.t 46)), none⟩]) (.seq (.region [⟨some 4, .pu (.mov (.c (.b true))), none⟩]) .ret))))
def c67_2 : IC := (.cond (.t 20) (.seq (.region [⟨some 4, .pu (.mov (.c (.b false))), none⟩]) .ret) .skip)
def o67_3 : List IOp := [⟨some 20, .pu (.pick (.t 13) (.c (.b true)) (.t 19)), none⟩] ++ []
def o67_4 : List IOp := [⟨some 14, .pu (.mov (.t 0)), some (13, false)⟩, ⟨some 15, .pu (.nilc (.t 14)), some (13, false)⟩, ⟨some 16, .pu (.fa 1 (.t 15)), some (13, false)⟩, ⟨some 17, .ld false 1 (.t 16), some (13, false)⟩, ⟨some 18, .pu (.lens (.t 17)), some (13, false)⟩, ⟨some 19, .pu (.bin .eql (.t 18) (.c (.i .i64 0))), some (13, false)⟩] ++ o67_3
def o67_5 : List IOp := [⟨some 12, .pu (.pick (.t 7) (.c (.b true)) (.t 11)), none⟩, ⟨some 13, .pu (.mov (.t 12)), none⟩] ++ o67_4
def o67_6 : List IOp := [⟨some 8, .pu (.mov (.t 0)), some (7, false)⟩, ⟨some 9, .pu (.nilc (.t 8)), some (7, false)⟩, ⟨some 10, .pu (.fa 2 (.t 9)), some (7, false)⟩, ⟨some 11, .ld false 1 (.t 10), some (7, false)⟩] ++ o67_5
def o67_7 : List IOp := [⟨some 5, .pu (.mov (.t 0)), none⟩, ⟨some 6, .pu (.eqz false .p (.t 5) (.c (.p none))), none⟩, ⟨some 7, .pu (.mov (.t 6)), none⟩] ++ o67_6
def c67 : IC := (.seq (.region [⟨some 4, .pu (.mov (.c (.b false))), none⟩]) (.seq (.seq (.region o67_7) c67_2) c67_1))
def ir67 : IFn := { ntmps := 49, results := rs67, body := c67 }
/-! (*cableway/worker.Worker).Step -/
def rs68 : List RV := [(.c 6 true 11), (.t 7), (.t 8)]
def c68_2 : IC := (.seq (.region [⟨some 135, .pu (.bld [(.i .i64 0), (.i .i64 0), (.i .i64 0), (.i .i64 0), (.i .i64 0), (.i .u32 0), (.i .i64 0), (.b false), (.b false), (.i .i64 0), (.i .u32 0)] []), none⟩, ⟨some 136, .pu (.mov (.t 2)), none⟩, ⟨none, .ef (.store 11 (.t 6) (.t 135)), none⟩, ⟨some 7, .pu (.mov (.t 136)), none⟩, ⟨some 8, .pu (.mov (.c (.b false))), none⟩]) .ret)
def c68_4 : IC := (.cond (.t 87) (.seq (.region [⟨some 106, .pu (.mov (.t 0)), none⟩, ⟨some 107, .pu (.nilc (.t 106)), none⟩, ⟨some 108, .pu (.fa 14 (.t 107)), none⟩, ⟨some 109, .ld true 2 (.t 108), none⟩, ⟨some 110, .ef (.call 121 [(.t 109)]), none⟩, ⟨some 105, .pu (.mov (.t 110)), none⟩, ⟨some 111, .pu (.ext (.t 105) 0), none⟩, ⟨some 112, .pu (.ext (.t 105) 1), none⟩, ⟨some 113, .pu (.ext (.t 105) 2), none⟩, ⟨some 12, .al (.zero [(.i .i64 0), (.i .i64 0)]), none⟩, ⟨none, .ef (.store 2 (.t 12) (.t 111)), none⟩, ⟨some 13, .pu (.mov (.t 112)), none⟩, ⟨some 14, .pu (.mov (.t 113)), none⟩]) (.seq (.region [⟨some 114, .pu (.mov (.t 0)), none⟩, ⟨some 115, .ld true 2 (.t 12), none⟩, ⟨some 116, .pu (.nilc (.t 114)), none⟩, ⟨some 117, .pu (.fa 14 (.t 116)), none⟩, ⟨none, .ef (.store 2 (.t 117) (.t 115)), none⟩]) (.seq (.region [⟨some 118, .pu (.mov (.t 14)), none⟩]) (.cond (.t 118) (.seq (.draw [⟨some 119, .pu (.mov (.t 0)), none⟩, ⟨some 120, .pu (.mov (.t 13)), none⟩, ⟨some 121, .pu (.mov (.t 0)), none⟩, ⟨some 122, .pu (.nilc (.t 121)), none⟩, ⟨some 123, .pu (.fa 3 (.t 122)), none⟩, ⟨some 124, .pu (.fa 9 (.t 123)), none⟩, ⟨some 125, .ld false 1 (.t 124), none⟩, ⟨some 126, .pu (.mov (.t 0)), none⟩, ⟨some 127, .pu (.nilc (.t 126)), none⟩, ⟨some 128, .pu (.fa 3 (.t 127)), none⟩, ⟨some 129, .pu (.fa 10 (.t 128)), none⟩, ⟨some 130, .ld false 1 (.t 129), none⟩, ⟨some 131, .pu (.mov (.t 13)), none⟩, ⟨some 132, .ef (.call 122 [(.t 125), (.t 130), (.t 131)]), none⟩, ⟨some 133, .ef (.call 118 [(.t 119), (.c (.i .i64 3)), (.t 120), (.t 132)]), none⟩, ⟨some 134, .pu (.mov (.t 2)), none⟩, ⟨none, .ef (.store 11 (.t 6) (.t 133)), none⟩, ⟨some 7, .pu (.mov (.t 134)), none⟩, ⟨some 8, .pu (.mov (.c (.b true))), none⟩] []) .ret) .skip)))) .skip)
def o68_5 : List IOp := [⟨some 104, .pu (.pick (.t 97) (.t 103) (.c (.b false))), none⟩, ⟨some 87, .pu (.mov (.t 104)), none⟩] ++ []
def o68_6 : List IOp := [⟨some 98, .pu (.mov (.t 0)), some (97, true)⟩, ⟨some 99, .pu (.nilc (.t 98)), some (97, true)⟩, ⟨some 100, .pu (.fa 14 (.t 99)), some (97, true)⟩, ⟨some 101, .ld true 2 (.t 100), some (97, true)⟩, ⟨some 102, .ef (.call 119 [(.t 101)]), some (97, true)⟩, ⟨some 103, .pu (.bin .lss (.t 102) (.c (.i .i64 65535))), some (97, true)⟩] ++ o68_5
def o68_7 : List IOp := [⟨some 96, .pu (.pick (.t 90) (.t 95) (.c (.b false))), none⟩, ⟨some 97, .pu (.mov (.t 96)), none⟩] ++ o68_6
def o68_8 : List IOp := [⟨some 91, .pu (.mov (.t 0)), some (90, true)⟩, ⟨some 92, .pu (.nilc (.t 91)), some (90, true)⟩, ⟨some 93, .pu (.fa 3 (.t 92)), some (90, true)⟩, ⟨some 94, .pu (.fa 8 (.t 93)), some (90, true)⟩, ⟨some 95, .ld false 1 (.t 94), some (90, true)⟩] ++ o68_7
def o68_9 : List IOp := [⟨some 88, .pu (.mov (.t 1)), none⟩, ⟨some 89, .pu (.bin .eql (.t 88) (.c (.i .i64 3))), none⟩, ⟨some 90, .pu (.mov (.t 89)), none⟩] ++ o68_8
def c68_3 : IC := (.cond (.t 35) (.seq (.region [⟨some 45, .pu (.mov (.t 0)), none⟩, ⟨some 46, .pu (.nilc (.t 45)), none⟩, ⟨some 47, .pu (.fa 2 (.t 46)), none⟩, ⟨none, .ef (.store 1 (.t 47) (.c (.b false))), none⟩]) (.seq (.region [⟨some 48, .pu (.mov (.t 0)), none⟩, ⟨some 49, .pu (.mov (.t 0)), none⟩, ⟨some 50, .pu (.nilc (.t 49)), none⟩, ⟨some 51, .pu (.fa 14 (.t 50)), none⟩, ⟨some 52, .ld true 2 (.t 51), none⟩, ⟨some 53, .ef (.call 119 [(.t 52)]), none⟩, ⟨some 54, .ef (.call 118 [(.t 48), (.c (.i .i64 4)), (.t 53), (.c (.i .u32 0))]), none⟩, ⟨some 55, .pu (.mov (.t 2)), none⟩, ⟨none, .ef (.store 11 (.t 6) (.t 54)), none⟩, ⟨some 7, .pu (.mov (.t 55)), none⟩, ⟨some 8, .pu (.mov (.c (.b true))), none⟩]) .ret)) (.seq (.region [⟨some 57, .pu (.mov (.t 1)), none⟩, ⟨some 58, .pu (.bin .eql (.t 57) (.c (.i .i64 1))), none⟩, ⟨some 56, .pu (.mov (.t 58)), none⟩]) (.cond (.t 56) (.seq (.draw [⟨some 60, .pu (.mov (.t 0)), none⟩, ⟨some 61, .pu (.nilc (.t 60)), none⟩, ⟨some 62, .pu (.fa 3 (.t 61)), none⟩, ⟨some 63, .pu (.fa 9 (.t 62)), none⟩, ⟨some 64, .ld false 1 (.t 63), none⟩, ⟨some 65, .pu (.mov (.t 0)), none⟩, ⟨some 66, .pu (.nilc (.t 65)), none⟩, ⟨some 67, .pu (.fa 3 (.t 66)), none⟩, ⟨some 68, .pu (.fa 10 (.t 67)), none⟩, ⟨some 69, .ld false 1 (.t 68), none⟩, ⟨some 70, .pu (.mov (.t 2)), none⟩, ⟨some 71, .ef (.call 120 [(.t 64), (.t 69), (.t 70)]), none⟩, ⟨some 59, .pu (.mov (.t 71)), none⟩, ⟨some 72, .pu (.ext (.t 59) 0), none⟩, ⟨some 73, .pu (.ext (.t 59) 1), none⟩, ⟨some 74, .pu (.ext (.t 59) 2), none⟩, ⟨some 9, .pu (.mov (.t 72)), none⟩, ⟨some 10, .pu (.mov (.t 73)), none⟩, ⟨some 11, .pu (.mov (.t 74)), none⟩] []) (.seq (.region [⟨some 75, .pu (.mov (.t 0)), none⟩, ⟨some 76, .pu (.nilc (.t 75)), none⟩, ⟨some 77, .pu (.fa 2 (.t 76)), none⟩, ⟨none, .ef (.store 1 (.t 77) (.c (.b false))), none⟩]) (.seq (.seq (.region [⟨some 78, .pu (.mov (.t 11)), none⟩, ⟨some 79, .pu (.un .not (.t 78)), none⟩]) (.cond (.t 79) (.seq (.region [⟨some 80, .pu (.mov (.t 0)), none⟩, ⟨some 81, .ef (.call 118 [(.t 80), (.c (.i .i64 7)), (.c (.i .i64 0)), (.c (.i .u32 1))]), none⟩, ⟨some 82, .pu (.mov (.t 2)), none⟩, ⟨none, .ef (.store 11 (.t 6) (.t 81)), none⟩, ⟨some 7, .pu (.mov (.t 82)), none⟩, ⟨some 8, .pu (.mov (.c (.b true))), none⟩]) .ret) .skip)) (.seq (.region [⟨some 83, .pu (.mov (.t 0)), none⟩, ⟨some 84, .pu (.mov (.t 9)), none⟩, ⟨some 85, .ef (.call 118 [(.t 83), (.c (.i .i64 2)), (.c (.i .i64 0)), (.t 84)]), none⟩, ⟨some 86, .pu (.mov (.t 10)), none⟩, ⟨none, .ef (.store 11 (.t 6) (.t 85)), none⟩, ⟨some 7, .pu (.mov (.t 86)), none⟩, ⟨some 8, .pu (.mov (.c (.b true))), none⟩]) .ret)))) (.seq (.region o68_9) c68_4))))
def o68_12 : List IOp := [⟨some 44, .pu (.pick (.t 38) (.t 43) (.c (.b false))), none⟩, ⟨some 35, .pu (.mov (.t 44)), none⟩] ++ []
def o68_13 : List IOp := [⟨some 39, .pu (.mov (.t 0)), some (38, true)⟩, ⟨some 40, .pu (.nilc (.t 39)), some (38, true)⟩, ⟨some 41, .pu (.fa 3 (.t 40)), some (38, true)⟩, ⟨some 42, .pu (.fa 8 (.t 41)), some (38, true)⟩, ⟨some 43, .ld false 1 (.t 42), some (38, true)⟩] ++ o68_12
def o68_14 : List IOp := [⟨some 36, .pu (.mov (.t 1)), none⟩, ⟨some 37, .pu (.bin .eql (.t 36) (.c (.i .i64 1))), none⟩, ⟨some 38, .pu (.mov (.t 37)), none⟩] ++ o68_13
def c68_1 : IC := (.seq (.block 0 (.seq (.region [⟨some 27, .pu (.mov (.t 1)), none⟩, ⟨some 28, .pu (.bin .eql (.t 27) (.c (.i .i64 2))), none⟩, ⟨some 26, .pu (.mov (.t 28)), none⟩]) (.cond (.t 26) (.seq (.region [⟨some 29, .pu (.mov (.t 0)), none⟩, ⟨some 30, .pu (.nilc (.t 29)), none⟩, ⟨some 31, .pu (.fa 2 (.t 30)), none⟩, ⟨none, .ef (.store 1 (.t 31) (.c (.b false))), none⟩]) (.seq (.region [⟨some 32, .pu (.mov (.t 0)), none⟩, ⟨some 33, .ef (.call 118 [(.t 32), (.c (.i .i64 7)), (.c (.i .i64 0)), (.c (.i .u32 1))]), none⟩, ⟨some 34, .pu (.mov (.t 2)), none⟩, ⟨none, .ef (.store 11 (.t 6) (.t 33)), none⟩, ⟨some 7, .pu (.mov (.t 34)), none⟩, ⟨some 8, .pu (.mov (.c (.b true))), none⟩]) .ret)) (.seq (.region o68_14) c68_3)))) c68_2)
def c68_16 : IC := (.cond (.t 23) (.seq (.region [⟨some 24, .pu (.bld [(.i .i64 0), (.i .i64 0), (.i .i64 0), (.i .i64 0), (.i .i64 0), (.i .u32 0), (.i .i64 0), (.b false), (.b false), (.i .i64 0), (.i .u32 0)] []), none⟩, ⟨some 25, .pu (.mov (.t 2)), none⟩, ⟨none, .ef (.store 11 (.t 6) (.t 24)), none⟩, ⟨some 7, .pu (.mov (.t 25)), none⟩, ⟨some 8, .pu (.mov (.c (.b false))), none⟩]) .ret) .skip)
def o68_17 : List IOp := [⟨some 23, .pu (.pick (.t 17) (.c (.b true)) (.t 22)), none⟩] ++ []
def o68_18 : List IOp := [⟨some 18, .pu (.mov (.t 0)), some (17, false)⟩, ⟨some 19, .pu (.nilc (.t 18)), some (17, false)⟩, ⟨some 20, .pu (.fa 2 (.t 19)), some (17, false)⟩, ⟨some 21, .ld false 1 (.t 20), some (17, false)⟩, ⟨some 22, .pu (.un .not (.t 21)), some (17, false)⟩] ++ o68_17
def o68_19 : List IOp := [⟨some 15, .pu (.mov (.t 0)), none⟩, ⟨some 16, .pu (.eqz false .p (.t 15) (.c (.p none))), none⟩, ⟨some 17, .pu (.mov (.t 16)), none⟩] ++ o68_18
def c68 : IC := (.seq (.region [⟨some 6, .al (.zero [(.i .i64 0), (.i .i64 0), (.i .i64 0), (.i .i64 0), (.i .i64 0), (.i .u32 0), (.i .i64 0), (.b false), (.b false), (.i .i64 0), (.i .u32 0)]), none⟩, ⟨some 7, .pu (.mov (.c (.i .u32 0))), none⟩, ⟨some 8, .pu (.mov (.c (.b false))), none⟩]) (.seq (.seq (.region o68_19) c68_16) c68_1))
def ir68 : IFn := { ntmps := 137, results := rs68, body := c68 }
/-! (*cableway/server.Server).end -/
def rs69 : List RV := []
def c69_1 : IC := (.cond (.t 16) (.draw [⟨some 19, .pu (.mov (.t 0)), none⟩, ⟨some 20, .pu (.nilc (.t 19)), none⟩, ⟨some 21, .pu (.fa 5 (.t 20)), none⟩, ⟨some 22, .ld false 1 (.t 21), none⟩, ⟨some 23, .ld true 11 (.t 3), none⟩, ⟨some 24, .pu (.fa 10 (.t 3)), none⟩, ⟨some 25, .ld false 1 (.t 24), none⟩, ⟨some 26, .ef (.call 123 [(.t 22), (.t 23), (.c (.b false)), (.t 25)]), none⟩] []) .skip)
def c69 : IC := (.seq (.region [⟨some 3, .al (.box (.t 1)), none⟩]) (.seq (.region [⟨some 4, .pu (.fa 0 (.t 3)), none⟩, ⟨some 5, .ld false 1 (.t 4), none⟩]) (.block 0 (.seq (.region [⟨some 7, .pu (.bin .eql (.t 5) (.c (.i .i64 2))), none⟩, ⟨some 6, .pu (.mov (.t 7)), none⟩]) (.cond (.t 6) (.draw [⟨some 8, .pu (.mov (.t 0)), none⟩, ⟨some 9, .pu (.nilc (.t 8)), none⟩, ⟨some 10, .pu (.fa 5 (.t 9)), none⟩, ⟨some 11, .ld false 1 (.t 10), none⟩, ⟨some 12, .ld true 11 (.t 3), none⟩, ⟨some 13, .pu (.fa 10 (.t 3)), none⟩, ⟨some 14, .ld false 1 (.t 13), none⟩, ⟨some 15, .ef (.call 123 [(.t 11), (.t 12), (.c (.b true)), (.t 14)]), none⟩] []) (.seq (.seq (.region [⟨some 17, .pu (.bin .eql (.t 5) (.c (.i .i64 7))), none⟩, ⟨some 16, .pu (.mov (.t 17)), none⟩]) (.cond (.t 16) .skip (.region [⟨some 18, .pu (.bin .eql (.t 5) (.c (.i .i64 4))), none⟩, ⟨some 16, .pu (.mov (.t 18)), none⟩]))) c69_1))))))
def ir69 : IFn := { ntmps := 27, results := rs69, body := c69 }
/-! (*cableway/server.Server).say -/
def rs70 : List RV := [(.t 4)]
def c70_1 : IC := (.seq (.draw [⟨some 20, .pu (.mov (.t 0)), none⟩, ⟨some 21, .pu (.fa 1 (.t 3)), none⟩, ⟨some 22, .ld false 1 (.t 21), none⟩, ⟨some 23, .pu (.mov (.t 0)), none⟩, ⟨some 24, .pu (.fa 1 (.t 3)), none⟩, ⟨some 25, .ld false 1 (.t 24), none⟩, ⟨some 26, .pu (.nilc (.t 23)), none⟩, ⟨some 27, .pu (.fa 7 (.t 26)), none⟩, ⟨some 28, .pu (.iaa 1 4 (.t 27) (.t 25)), none⟩, ⟨some 29, .ld false 1 (.t 28), none⟩, ⟨some 30, .ld true 11 (.t 3), none⟩, ⟨some 31, .al (.sl 1 [(.i .i64 0), (.i .i64 0), (.i .i64 0), (.i .i64 0), (.i .i64 0), (.i .u32 0), (.i .i64 0), (.b false), (.b false), (.i .i64 0), (.i .u32 0)] [(0, 11, (.t 30))]), none⟩, ⟨some 32, .ef (.app 11 80 (.t 29) (.t 31)), none⟩, ⟨some 33, .pu (.nilc (.t 20)), none⟩, ⟨some 34, .pu (.fa 7 (.t 33)), none⟩, ⟨some 35, .pu (.iaa 1 4 (.t 34) (.t 22)), none⟩, ⟨none, .ef (.store 1 (.t 35) (.t 32)), none⟩] [(2, 12)]) (.seq (.region [⟨some 4, .pu (.mov (.c (.b true))), none⟩]) .ret))
def c70_2 : IC := (.cond (.t 19) (.seq (.region [⟨some 4, .pu (.mov (.c (.b false))), none⟩]) .ret) .skip)
def o70_3 : List IOp := [⟨some 19, .pu (.pick (.t 9) (.c (.b true)) (.t 18)), none⟩] ++ []
def o70_4 : List IOp := [⟨some 10, .pu (.mov (.t 0)), some (9, false)⟩, ⟨some 11, .pu (.fa 1 (.t 3)), some (9, false)⟩, ⟨some 12, .ld false 1 (.t 11), some (9, false)⟩, ⟨some 13, .pu (.nilc (.t 10)), some (9, false)⟩, ⟨some 14, .pu (.fa 7 (.t 13)), some (9, false)⟩, ⟨some 15, .pu (.iaa 1 4 (.t 14) (.t 12)), some (9, false)⟩, ⟨some 16, .ld false 1 (.t 15), some (9, false)⟩, ⟨some 17, .pu (.lens (.t 16)), some (9, false)⟩, ⟨some 18, .pu (.bin .geq (.t 17) (.c (.i .i64 32))), some (9, false)⟩] ++ o70_3
def o70_5 : List IOp := [⟨some 5, .pu (.fa 1 (.t 3)), none⟩, ⟨some 6, .ld false 1 (.t 5), none⟩, ⟨some 7, .ef (.call 65 [(.t 6)]), none⟩, ⟨some 8, .pu (.un .not (.t 7)), none⟩, ⟨some 9, .pu (.mov (.t 8)), none⟩] ++ o70_4
def c70 : IC := (.seq (.region [⟨some 3, .al (.box (.t 1)), none⟩, ⟨some 4, .pu (.mov (.c (.b false))), none⟩]) (.seq (.seq (.draw o70_5 []) c70_2) c70_1))
def ir70 : IFn := { ntmps := 36, results := rs70, body := c70 }
/-! slices.Clone[[]cableway/api.Frame,cableway/api.Frame] -/
def rs71 : List RV := [(.t 2)]
def c71 : IC := (.seq (.region [⟨some 2, .pu (.mov (.c .nsl)), none⟩]) (.seq (.seq (.region [⟨some 3, .pu (.mov (.t 0)), none⟩, ⟨some 4, .pu (.eqz false .s (.t 3) (.c .nsl)), none⟩]) (.cond (.t 4) (.seq (.region [⟨some 2, .pu (.mov (.c .nsl)), none⟩]) .ret) .skip)) (.seq (.region [⟨some 5, .al (.sl 0 [] []), none⟩, ⟨some 6, .pu (.mov (.t 0)), none⟩, ⟨some 7, .ef (.app 11 80 (.t 5) (.t 6)), none⟩, ⟨some 2, .pu (.mov (.t 7)), none⟩]) .ret)))
def ir71 : IFn := { ntmps := 8, results := rs71, body := c71 }
/-! cableway/fetch.New -/
def rs72 : List RV := [(.c 4 true 8)]
def c72 : IC := (.seq (.region [⟨some 2, .al (.box (.t 0)), none⟩, ⟨some 4, .al (.zero [(.i .i64 0), (.i .i64 0), (.i .u64 0), (.i .u64 0), (.i .u64 0), (.i .u64 0), (.i .i64 0), (.b false)]), none⟩]) (.seq (.region [⟨some 5, .ld true 2 (.t 2), none⟩, ⟨some 6, .pu (.mov (.t 1)), none⟩, ⟨some 7, .pu (.bld [(.i .i64 0), (.i .i64 0), (.i .u64 0), (.i .u64 0), (.i .u64 0), (.i .u64 0), (.i .i64 0), (.b false)] [(0, 2, (.t 5)), (2, 1, (.t 6))]), none⟩, ⟨none, .ef (.store 8 (.t 4) (.t 7)), none⟩]) .ret))
def ir72 : IFn := { ntmps := 8, results := rs72, body := c72 }
/-! (cableway/fetch.Task).Step -/
def rs73 : List RV := [(.c 4 true 8)]
def c73_1 : IC := (.seq (.region [⟨some 73, .ld true 8 (.t 2), none⟩, ⟨none, .ef (.store 8 (.t 4) (.t 73)), none⟩]) .ret)
def c73 : IC := (.seq (.region [⟨some 2, .al (.box (.t 0)), none⟩, ⟨some 4, .al (.zero [(.i .i64 0), (.i .i64 0), (.i .u64 0), (.i .u64 0), (.i .u64 0), (.i .u64 0), (.i .i64 0), (.b false)]), none⟩]) (.seq (.seq (.region [⟨some 9, .ld true 8 (.t 2), none⟩, ⟨some 10, .ef (.call 74 [(.t 9)]), none⟩, ⟨some 8, .pu (.mov (.t 10)), none⟩, ⟨some 11, .pu (.ext (.t 8) 0), none⟩, ⟨some 12, .pu (.ext (.t 8) 1), none⟩, ⟨some 5, .pu (.mov (.t 11)), none⟩, ⟨some 6, .pu (.mov (.t 12)), none⟩]) (.seq (.region [⟨some 13, .pu (.mov (.t 6)), none⟩]) (.cond (.t 13) (.seq (.region [⟨some 14, .ld true 8 (.t 2), none⟩, ⟨none, .ef (.store 8 (.t 4) (.t 14)), none⟩]) .ret) .skip))) (.seq (.seq (.region [⟨some 15, .pu (.fa 0 (.t 2)), none⟩, ⟨some 16, .ld true 2 (.t 15), none⟩, ⟨some 17, .ef (.call 103 [(.t 16)]), none⟩, ⟨some 18, .pu (.un .not (.t 17)), none⟩]) (.cond (.t 18) (.seq (.region [⟨some 19, .pu (.fa 7 (.t 2)), none⟩, ⟨none, .ef (.store 1 (.t 19) (.c (.b true))), none⟩]) (.seq (.region [⟨some 20, .ld true 8 (.t 2), none⟩, ⟨none, .ef (.store 8 (.t 4) (.t 20)), none⟩]) .ret)) .skip)) (.seq (.seq (.region [⟨some 21, .pu (.fa 6 (.t 2)), none⟩, ⟨some 22, .ld false 1 (.t 21), none⟩]) (.block 0 (.seq (.region [⟨some 42, .pu (.bin .eql (.t 22) (.c (.i .i64 0))), none⟩, ⟨some 41, .pu (.mov (.t 42)), none⟩]) (.cond (.t 41) (.seq (.draw [⟨some 43, .pu (.mov (.t 1)), none⟩, ⟨some 44, .pu (.fa 0 (.t 2)), none⟩, ⟨some 45, .ld true 2 (.t 44), none⟩, ⟨some 46, .pu (.fa 2 (.t 2)), none⟩, ⟨some 47, .ld false 1 (.t 46), none⟩, ⟨some 48, .ef (.call 113 [(.t 45), (.t 47)]), none⟩, ⟨some 49, .ef (.call 110 [(.t 43), (.t 48)]), none⟩, ⟨some 50, .pu (.fa 2 (.t 2)), none⟩, ⟨some 51, .ld false 1 (.t 50), none⟩, ⟨some 52, .pu (.bin .add (.t 51) (.c (.i .u64 1))), none⟩, ⟨some 53, .pu (.bin .eql (.t 49) (.t 52)), none⟩] [(8, 5), (8, 6)]) (.cond (.t 53) (.region [⟨some 54, .pu (.fa 6 (.t 2)), none⟩, ⟨none, .ef (.store 1 (.t 54) (.c (.i .i64 1))), none⟩]) (.region [⟨some 55, .pu (.fa 7 (.t 2)), none⟩, ⟨none, .ef (.store 1 (.t 55) (.c (.b true))), none⟩]))) (.seq (.region [⟨some 57, .pu (.bin .eql (.t 22) (.c (.i .i64 4))), none⟩, ⟨some 56, .pu (.mov (.t 57)), none⟩]) (.cond (.t 56) (.seq (.draw [⟨some 58, .pu (.mov (.t 1)), none⟩, ⟨some 59, .pu (.fa 0 (.t 2)), none⟩, ⟨some 60, .ld true 2 (.t 59), none⟩, ⟨some 61, .pu (.fa 2 (.t 2)), none⟩, ⟨some 62, .ld false 1 (.t 61), none⟩, ⟨some 63, .ef (.call 113 [(.t 60), (.t 62)]), none⟩, ⟨some 64, .pu (.fa 2 (.t 2)), none⟩, ⟨some 65, .ld false 1 (.t 64), none⟩, ⟨some 66, .pu (.fa 0 (.t 2)), none⟩, ⟨some 67, .pu (.fa 1 (.t 66)), none⟩, ⟨some 68, .ld false 1 (.t 67), none⟩, ⟨some 69, .pu (.cvi .u64 (.t 68)), none⟩, ⟨some 70, .pu (.bin .add (.t 65) (.t 69)), none⟩, ⟨some 71, .ef (.call 85 [(.t 58), (.t 63), (.t 70)]), none⟩] [(7, 5), (10, 5)]) (.region [⟨some 72, .pu (.fa 6 (.t 2)), none⟩, ⟨none, .ef (.store 1 (.t 72) (.c (.i .i64 5))), none⟩])) (.seq (.region [⟨some 23, .pu (.fa 6 (.t 2)), none⟩, ⟨some 24, .ld false 1 (.t 23), none⟩, ⟨some 25, .pu (.bin .sub (.t 24) (.c (.i .i64 1))), none⟩, ⟨some 7, .pu (.mov (.t 25)), none⟩]) (.seq (.region [⟨some 26, .pu (.mov (.t 7)), none⟩, ⟨some 27, .pu (.mov (.t 1)), none⟩, ⟨some 28, .pu (.fa 0 (.t 2)), none⟩, ⟨some 29, .ld true 2 (.t 28), none⟩, ⟨some 30, .pu (.fa 2 (.t 2)), none⟩, ⟨some 31, .ld false 1 (.t 30), none⟩, ⟨some 32, .pu (.mov (.t 7)), none⟩, ⟨some 33, .ef (.call 115 [(.t 29), (.t 31), (.t 32)]), none⟩, ⟨some 34, .ef (.call 110 [(.t 27), (.t 33)]), none⟩, ⟨some 35, .pu (.fa 3 (.t 2)), none⟩, ⟨some 36, .pu (.iaa 1 3 (.t 35) (.t 26)), none⟩, ⟨none, .ef (.store 1 (.t 36) (.t 34)), none⟩]) (.region [⟨some 37, .pu (.fa 6 (.t 2)), none⟩, ⟨some 38, .ld false 1 (.t 37), none⟩, ⟨some 39, .pu (.bin .add (.t 38) (.c (.i .i64 1))), none⟩, ⟨some 40, .pu (.fa 6 (.t 2)), none⟩, ⟨none, .ef (.store 1 (.t 40) (.t 39)), none⟩]))))))))) c73_1))))
def ir73 : IFn := { ntmps := 74, results := rs73, body := c73 }
/-! (cableway/fetch.Task).Done -/
def rs74 : List RV := [(.t 2), (.t 3)]
def c74 : IC := (.seq (.region [⟨some 1, .al (.box (.t 0)), none⟩, ⟨some 2, .pu (.mov (.c (.i .i64 0))), none⟩, ⟨some 3, .pu (.mov (.c (.b false))), none⟩]) (.seq (.block 0 (.seq (.region [⟨some 5, .pu (.fa 7 (.t 1)), none⟩, ⟨some 6, .ld false 1 (.t 5), none⟩, ⟨some 4, .pu (.mov (.t 6)), none⟩]) (.cond (.t 4) (.seq (.region [⟨some 2, .pu (.mov (.c (.i .i64 4))), none⟩, ⟨some 3, .pu (.mov (.c (.b true))), none⟩]) .ret) (.seq (.region [⟨some 8, .pu (.fa 6 (.t 1)), none⟩, ⟨some 9, .ld false 1 (.t 8), none⟩, ⟨some 10, .pu (.bin .eql (.t 9) (.c (.i .i64 5))), none⟩, ⟨some 7, .pu (.mov (.t 10)), none⟩]) (.cond (.t 7) (.seq (.region [⟨some 2, .pu (.mov (.c (.i .i64 0))), none⟩, ⟨some 3, .pu (.mov (.c (.b true))), none⟩]) .ret) .skip))))) (.seq (.region [⟨some 2, .pu (.mov (.c (.i .i64 0))), none⟩, ⟨some 3, .pu (.mov (.c (.b false))), none⟩]) .ret)))
def ir74 : IFn := { ntmps := 11, results := rs74, body := c74 }
/-! cableway/frame.Get -/
def rs75 : List RV := [(.c 2 true 11), (.t 3)]
def c75_1 : IC := (.seq (.region [⟨some 107, .ld true 11 (.t 5), none⟩, ⟨none, .ef (.store 11 (.t 2) (.t 107)), none⟩, ⟨some 3, .pu (.mov (.c (.i .i64 0))), none⟩]) .ret)
def c75_2 : IC := (.cond (.t 105) (.seq (.region [⟨some 106, .pu (.bld [(.i .i64 0), (.i .i64 0), (.i .i64 0), (.i .i64 0), (.i .i64 0), (.i .u32 0), (.i .i64 0), (.b false), (.b false), (.i .i64 0), (.i .u32 0)] []), none⟩, ⟨none, .ef (.store 11 (.t 2) (.t 106)), none⟩, ⟨some 3, .pu (.mov (.c (.i .i64 2))), none⟩]) .ret) .skip)
def o75_3 : List IOp := [⟨some 105, .pu (.pick (.t 101) (.c (.b true)) (.t 104)), none⟩] ++ []
def o75_4 : List IOp := [⟨some 102, .ld true 11 (.t 5), some (101, false)⟩, ⟨some 103, .ef (.call 107 [(.t 102)]), some (101, false)⟩, ⟨some 104, .pu (.un .not (.t 103)), some (101, false)⟩] ++ o75_3
def o75_5 : List IOp := [⟨some 100, .pu (.pick (.t 93) (.c (.b true)) (.t 99)), none⟩, ⟨some 101, .pu (.mov (.t 100)), none⟩] ++ o75_4
def o75_6 : List IOp := [⟨some 94, .pu (.iaa 1 3 (.t 1) (.c (.i .i64 2))), some (93, false)⟩, ⟨some 95, .ld false 1 (.t 94), some (93, false)⟩, ⟨some 96, .ld true 2 (.g 10), some (93, false)⟩, ⟨some 97, .al (.sl 1 [(.i .i64 0), (.i .i64 0)] [(0, 2, (.t 96))]), some (93, false)⟩, ⟨some 98, .ef (.call 125 [(.t 95), (.t 97)]), some (93, false)⟩, ⟨some 99, .pu (.bin .neq (.t 98) (.c (.i .u64 0))), some (93, false)⟩] ++ o75_5
def o75_7 : List IOp := [⟨some 80, .pu (.iaa 1 3 (.t 1) (.c (.i .i64 0))), none⟩, ⟨some 81, .ld false 1 (.t 80), none⟩, ⟨some 82, .ld true 2 (.g 0), none⟩, ⟨some 83, .ld true 2 (.g 1), none⟩, ⟨some 84, .ld true 2 (.g 2), none⟩, ⟨some 85, .ld true 2 (.g 3), none⟩, ⟨some 86, .ld true 2 (.g 4), none⟩, ⟨some 87, .ld true 2 (.g 5), none⟩, ⟨some 88, .ld true 2 (.g 6), none⟩, ⟨some 89, .ld true 2 (.g 7), none⟩, ⟨some 90, .al (.sl 8 [(.i .i64 0), (.i .i64 0), (.i .i64 0), (.i .i64 0), (.i .i64 0), (.i .i64 0), (.i .i64 0), (.i .i64 0), (.i .i64 0), (.i .i64 0), (.i .i64 0), (.i .i64 0), (.i .i64 0), (.i .i64 0), (.i .i64 0), (.i .i64 0)] [(0, 2, (.t 82)), (2, 2, (.t 83)), (4, 2, (.t 84)), (6, 2, (.t 85)), (8, 2, (.t 86)), (10, 2, (.t 87)), (12, 2, (.t 88)), (14, 2, (.t 89))]), none⟩, ⟨some 91, .ef (.call 125 [(.t 81), (.t 90)]), none⟩, ⟨some 92, .pu (.bin .neq (.t 91) (.c (.i .u64 0))), none⟩, ⟨some 93, .pu (.mov (.t 92)), none⟩] ++ o75_6
def c75 : IC := (.seq (.region [⟨some 1, .al (.box (.t 0)), none⟩, ⟨some 2, .al (.zero [(.i .i64 0), (.i .i64 0), (.i .i64 0), (.i .i64 0), (.i .i64 0), (.i .u32 0), (.i .i64 0), (.b false), (.b false), (.i .i64 0), (.i .u32 0)]), none⟩, ⟨some 3, .pu (.mov (.c (.i .i64 0))), none⟩]) (.seq (.region [⟨some 4, .pu (.mov (.f 124)), none⟩]) (.seq (.draw [⟨some 6, .pu (.mov (.t 4)), none⟩, ⟨some 7, .ld true 2 (.g 5), none⟩, ⟨some 8, .pu (.iaa 1 3 (.t 1) (.c (.i .i64 0))), none⟩, ⟨some 9, .ld false 1 (.t 8), none⟩, ⟨some 10, .ef (.callv (.t 6) [(.t 7), (.t 9)]), none⟩, ⟨some 11, .pu (.bin .eql (.t 10) (.c (.i .u64 1))), none⟩, ⟨some 12, .pu (.mov (.t 4)), none⟩, ⟨some 13, .ld true 2 (.g 6), none⟩, ⟨some 14, .pu (.iaa 1 3 (.t 1) (.c (.i .i64 0))), none⟩, ⟨some 15, .ld false 1 (.t 14), none⟩, ⟨some 16, .ef (.callv (.t 12) [(.t 13), (.t 15)]), none⟩, ⟨some 17, .pu (.bin .eql (.t 16) (.c (.i .u64 1))), none⟩, ⟨some 18, .pu (.mov (.t 4)), none⟩, ⟨some 19, .ld true 2 (.g 9), none⟩, ⟨some 20, .pu (.iaa 1 3 (.t 1) (.c (.i .i64 1))), none⟩, ⟨some 21, .ld false 1 (.t 20), none⟩, ⟨some 22, .ef (.callv (.t 18) [(.t 19), (.t 21)]), none⟩, ⟨some 23, .pu (.cvi .u32 (.t 22)), none⟩, ⟨some 24, .pu (.mov (.t 4)), none⟩, ⟨some 25, .ld true 2 (.g 8), none⟩, ⟨some 26, .pu (.iaa 1 3 (.t 1) (.c (.i .i64 1))), none⟩, ⟨some 27, .ld false 1 (.t 26), none⟩, ⟨some 28, .ef (.callv (.t 24) [(.t 25), (.t 27)]), none⟩, ⟨some 29, .pu (.cvi .u32 (.t 28)), none⟩, ⟨some 30, .pu (.bld [(.i .i64 0), (.i .i64 0), (.i .i64 0), (.i .i64 0), (.i .i64 0), (.i .u32 0), (.i .i64 0), (.b false), (.b false), (.i .i64 0), (.i .u32 0)] [(7, 1, (.t 11)), (8, 1, (.t 17)), (5, 1, (.t 23)), (10, 1, (.t 29))]), none⟩, ⟨some 5, .al (.zero [(.i .i64 0), (.i .i64 0), (.i .i64 0), (.i .i64 0), (.i .i64 0), (.i .u32 0), (.i .i64 0), (.b false), (.b false), (.i .i64 0), (.i .u32 0)]), none⟩, ⟨none, .ef (.store 11 (.t 5) (.t 30)), none⟩] [(7, 4), (9, 4), (13, 4), (13, 10), (15, 4), (15, 10), (19, 4), (19, 10), (19, 16), (21, 4), (21, 10), (21, 16)]) (.seq (.draw [⟨some 31, .pu (.mov (.t 4)), none⟩, ⟨some 32, .ld true 2 (.g 0), none⟩, ⟨some 33, .pu (.iaa 1 3 (.t 1) (.c (.i .i64 0))), none⟩, ⟨some 34, .ld false 1 (.t 33), none⟩, ⟨some 35, .ef (.callv (.t 31) [(.t 32), (.t 34)]), none⟩, ⟨some 36, .pu (.cvi .i64 (.t 35)), none⟩, ⟨some 37, .pu (.mov (.t 4)), none⟩, ⟨some 38, .ld true 2 (.g 1), none⟩, ⟨some 39, .pu (.iaa 1 3 (.t 1) (.c (.i .i64 0))), none⟩, ⟨some 40, .ld false 1 (.t 39), none⟩, ⟨some 41, .ef (.callv (.t 37) [(.t 38), (.t 40)]), none⟩, ⟨some 42, .pu (.cvi .i64 (.t 41)), none⟩, ⟨some 43, .pu (.mov (.t 4)), none⟩, ⟨some 44, .ld true 2 (.g 2), none⟩, ⟨some 45, .pu (.iaa 1 3 (.t 1) (.c (.i .i64 0))), none⟩, ⟨some 46, .ld false 1 (.t 45), none⟩, ⟨some 47, .ef (.callv (.t 43) [(.t 44), (.t 46)]), none⟩, ⟨some 48, .pu (.cvi .i64 (.t 47)), none⟩, ⟨some 49, .pu (.fa 0 (.t 5)), none⟩, ⟨none, .ef (.store 1 (.t 49) (.t 36)), none⟩, ⟨some 50, .pu (.fa 1 (.t 5)), none⟩, ⟨none, .ef (.store 1 (.t 50) (.t 42)), none⟩, ⟨some 51, .pu (.fa 2 (.t 5)), none⟩, ⟨none, .ef (.store 1 (.t 51) (.t 48)), none⟩] [(7, 4), (9, 4), (13, 4), (13, 10), (15, 4), (15, 10)]) (.seq (.draw [⟨some 52, .pu (.mov (.t 4)), none⟩, ⟨some 53, .ld true 2 (.g 3), none⟩, ⟨some 54, .pu (.iaa 1 3 (.t 1) (.c (.i .i64 0))), none⟩, ⟨some 55, .ld false 1 (.t 54), none⟩, ⟨some 56, .ef (.callv (.t 52) [(.t 53), (.t 55)]), none⟩, ⟨some 57, .pu (.cvi .i64 (.t 56)), none⟩, ⟨some 58, .pu (.mov (.t 4)), none⟩, ⟨some 59, .ld true 2 (.g 4), none⟩, ⟨some 60, .pu (.iaa 1 3 (.t 1) (.c (.i .i64 0))), none⟩, ⟨some 61, .ld false 1 (.t 60), none⟩, ⟨some 62, .ef (.callv (.t 58) [(.t 59), (.t 61)]), none⟩, ⟨some 63, .pu (.cvi .i64 (.t 62)), none⟩, ⟨some 64, .pu (.mov (.t 4)), none⟩, ⟨some 65, .ld true 2 (.g 7), none⟩, ⟨some 66, .pu (.iaa 1 3 (.t 1) (.c (.i .i64 0))), none⟩, ⟨some 67, .ld false 1 (.t 66), none⟩, ⟨some 68, .ef (.callv (.t 64) [(.t 65), (.t 67)]), none⟩, ⟨some 69, .pu (.cvi .i64 (.t 68)), none⟩, ⟨some 70, .pu (.fa 3 (.t 5)), none⟩, ⟨none, .ef (.store 1 (.t 70) (.t 57)), none⟩, ⟨some 71, .pu (.fa 6 (.t 5)), none⟩, ⟨none, .ef (.store 1 (.t 71) (.t 63)), none⟩, ⟨some 72, .pu (.fa 4 (.t 5)), none⟩, ⟨none, .ef (.store 1 (.t 72) (.t 69)), none⟩] [(7, 4), (9, 4), (13, 4), (13, 10), (15, 4), (15, 10)]) (.seq (.region [⟨some 73, .pu (.mov (.t 4)), none⟩, ⟨some 74, .ld true 2 (.g 10), none⟩, ⟨some 75, .pu (.iaa 1 3 (.t 1) (.c (.i .i64 2))), none⟩, ⟨some 76, .ld false 1 (.t 75), none⟩, ⟨some 77, .ef (.callv (.t 73) [(.t 74), (.t 76)]), none⟩, ⟨some 78, .pu (.cvi .i64 (.t 77)), none⟩, ⟨some 79, .pu (.fa 9 (.t 5)), none⟩, ⟨none, .ef (.store 1 (.t 79) (.t 78)), none⟩]) (.seq (.seq (.region o75_7) c75_2) c75_1)))))))
def ir75 : IFn := { ntmps := 108, results := rs75, body := c75 }
/-! (cableway/fetch.Task).Words -/
def rs76 : List RV := [(.c 2 true 3)]
def c76 : IC := (.seq (.region [⟨some 1, .al (.box (.t 0)), none⟩, ⟨some 2, .al (.zero [(.i .u64 0), (.i .u64 0), (.i .u64 0)]), none⟩]) (.seq (.seq (.region [⟨some 3, .pu (.fa 6 (.t 1)), none⟩, ⟨some 4, .ld false 1 (.t 3), none⟩, ⟨some 5, .pu (.bin .neq (.t 4) (.c (.i .i64 5))), none⟩]) (.cond (.t 5) (.seq (.region [⟨some 6, .pu (.bld [(.i .u64 0), (.i .u64 0), (.i .u64 0)] []), none⟩, ⟨none, .ef (.store 3 (.t 2) (.t 6)), none⟩]) .ret) .skip)) (.seq (.region [⟨some 7, .pu (.fa 3 (.t 1)), none⟩, ⟨some 8, .ld true 3 (.t 7), none⟩, ⟨none, .ef (.store 3 (.t 2) (.t 8)), none⟩]) .ret)))
def ir76 : IFn := { ntmps := 9, results := rs76, body := c76 }
/-! (*cableway/post.Post).turn -/
def rs77 : List RV := []
def c77_1 : IC := (.draw [⟨some 82, .pu (.mov (.t 0)), none⟩, ⟨some 83, .pu (.mov (.t 0)), none⟩, ⟨some 84, .pu (.mov (.t 0)), none⟩, ⟨some 85, .pu (.nilc (.t 84)), none⟩, ⟨some 86, .pu (.fa 1 (.t 85)), none⟩, ⟨some 87, .ld true 2 (.t 86), none⟩, ⟨some 88, .pu (.mov (.t 0)), none⟩, ⟨some 89, .pu (.nilc (.t 88)), none⟩, ⟨some 90, .pu (.fa 4 (.t 89)), none⟩, ⟨some 91, .ld false 1 (.t 90), none⟩, ⟨some 92, .ef (.call 72 [(.t 87), (.t 91)]), none⟩, ⟨some 93, .pu (.nilc (.t 82)), none⟩, ⟨some 94, .pu (.fa 9 (.t 93)), none⟩, ⟨none, .ef (.store 1 (.t 94) (.c (.i .i64 1))), none⟩, ⟨some 95, .pu (.nilc (.t 83)), none⟩, ⟨some 96, .pu (.fa 10 (.t 95)), none⟩, ⟨none, .ef (.store 8 (.t 96) (.t 92)), none⟩] [])
def c77_2 : IC := (.seq (.region [⟨some 24, .pu (.bin .lss (.t 23) (.t 22)), none⟩]) (.seq (.cond (.t 24) .skip (.exit 0)) (.seq (.block 1 (.seq (.region [⟨some 25, .pu (.mov (.t 0)), none⟩, ⟨some 26, .pu (.nilc (.t 25)), none⟩, ⟨some 27, .pu (.fa 6 (.t 26)), none⟩, ⟨some 28, .ld false 1 (.t 27), none⟩, ⟨some 3, .pu (.mov (.t 28)), none⟩]) (.seq (.region [⟨some 29, .pu (.mov (.t 0)), none⟩, ⟨some 30, .pu (.mov (.t 3)), none⟩, ⟨some 31, .pu (.bin .add (.t 30) (.c (.i .i64 1))), none⟩, ⟨some 32, .pu (.mov (.t 0)), none⟩, ⟨some 33, .pu (.nilc (.t 32)), none⟩, ⟨some 34, .pu (.fa 3 (.t 33)), none⟩, ⟨some 35, .ld false 1 (.t 34), none⟩, ⟨some 36, .pu (.lens (.t 35)), none⟩, ⟨some 37, .pu (.bin .rem (.t 31) (.t 36)), none⟩, ⟨some 38, .pu (.nilc (.t 29)), none⟩, ⟨some 39, .pu (.fa 6 (.t 38)), none⟩, ⟨none, .ef (.store 1 (.t 39) (.t 37)), none⟩]) (.seq (.region [⟨some 41, .pu (.mov (.t 0)), none⟩, ⟨some 42, .pu (.nilc (.t 41)), none⟩, ⟨some 43, .pu (.fa 0 (.t 42)), none⟩, ⟨some 44, .ld false 1 (.t 43), none⟩, ⟨some 45, .pu (.mov (.t 3)), none⟩, ⟨some 46, .ef (.call 126 [(.t 44), (.t 45)]), none⟩, ⟨some 40, .pu (.mov (.t 46)), none⟩, ⟨some 47, .pu (.ext (.t 40) 0), none⟩, ⟨some 48, .pu (.ext (.t 40) 1), none⟩, ⟨some 4, .al (.zero [(.i .i64 0), (.i .i64 0), (.i .i64 0), (.i .i64 0), (.i .i64 0), (.i .u32 0), (.i .i64 0), (.b false), (.b false), (.i .i64 0), (.i .u32 0)]), none⟩, ⟨none, .ef (.store 11 (.t 4) (.t 47)), none⟩, ⟨some 5, .pu (.mov (.t 48)), none⟩]) (.seq (.region [⟨some 49, .pu (.mov (.t 5)), none⟩]) (.cond (.t 49) (.seq (.region [⟨some 51, .ld true 11 (.t 4), none⟩, ⟨some 52, .ef (.call 60 [(.t 51)]), none⟩, ⟨some 50, .pu (.mov (.t 52)), none⟩, ⟨some 53, .pu (.ext (.t 50) 0), none⟩, ⟨some 54, .pu (.ext (.t 50) 1), none⟩, ⟨some 6, .al (.zero [(.i .u64 0), (.i .u64 0), (.i .u64 0)]), none⟩, ⟨none, .ef (.store 3 (.t 6) (.t 53)), none⟩, ⟨some 7, .pu (.mov (.t 54)), none⟩]) (.seq (.region [⟨some 55, .pu (.mov (.t 0)), none⟩, ⟨some 56, .pu (.mov (.t 0)), none⟩, ⟨some 57, .pu (.mov (.t 3)), none⟩, ⟨some 58, .pu (.nilc (.t 55)), none⟩, ⟨some 59, .pu (.fa 27 (.t 58)), none⟩, ⟨none, .ef (.store 1 (.t 59) (.t 57)), none⟩, ⟨some 60, .pu (.nilc (.t 56)), none⟩, ⟨some 61, .pu (.fa 9 (.t 60)), none⟩, ⟨none, .ef (.store 1 (.t 61) (.c (.i .i64 2))), none⟩]) (.seq (.draw [⟨some 62, .pu (.mov (.t 0)), none⟩, ⟨some 63, .pu (.mov (.t 0)), none⟩, ⟨some 64, .pu (.nilc (.t 63)), none⟩, ⟨some 65, .pu (.fa 3 (.t 64)), none⟩, ⟨some 66, .ld false 1 (.t 65), none⟩, ⟨some 67, .pu (.mov (.t 3)), none⟩, ⟨some 68, .pu (.ia 2 (.t 66) (.t 67)), none⟩, ⟨some 69, .ld true 2 (.t 68), none⟩, ⟨some 70, .ld true 3 (.t 6), none⟩, ⟨some 71, .pu (.mov (.t 0)), none⟩, ⟨some 72, .pu (.nilc (.t 71)), none⟩, ⟨some 73, .pu (.fa 5 (.t 72)), none⟩, ⟨some 74, .ld false 1 (.t 73), none⟩, ⟨some 75, .pu (.mov (.t 3)), none⟩, ⟨some 76, .pu (.ia 1 (.t 74) (.t 75)), none⟩, ⟨some 77, .ld false 1 (.t 76), none⟩, ⟨some 78, .ef (.call 87 [(.t 69), (.t 70), (.t 77)]), none⟩, ⟨some 79, .pu (.nilc (.t 62)), none⟩, ⟨some 80, .pu (.fa 18 (.t 79)), none⟩, ⟨none, .ef (.store 9 (.t 80) (.t 78)), none⟩] []) .ret))) .skip)))))) (.region [⟨some 81, .pu (.bin .add (.t 23) (.c (.i .i64 1))), none⟩, ⟨some 23, .pu (.mov (.t 81)), none⟩]))))
def c77 : IC := (.seq (.region [⟨some 8, .pu (.mov (.t 0)), none⟩, ⟨some 9, .pu (.nilc (.t 8)), none⟩, ⟨some 10, .pu (.fa 7 (.t 9)), none⟩, ⟨some 11, .ld false 1 (.t 10), none⟩, ⟨some 2, .pu (.mov (.t 11)), none⟩]) (.seq (.region [⟨some 12, .pu (.mov (.t 0)), none⟩, ⟨some 13, .pu (.mov (.t 2)), none⟩, ⟨some 14, .pu (.un .not (.t 13)), none⟩, ⟨some 15, .pu (.nilc (.t 12)), none⟩, ⟨some 16, .pu (.fa 7 (.t 15)), none⟩, ⟨none, .ef (.store 1 (.t 16) (.t 14)), none⟩]) (.seq (.seq (.region [⟨some 17, .pu (.mov (.t 2)), none⟩]) (.cond (.t 17) (.seq (.region [⟨some 18, .pu (.mov (.t 0)), none⟩, ⟨some 19, .pu (.nilc (.t 18)), none⟩, ⟨some 20, .pu (.fa 3 (.t 19)), none⟩, ⟨some 21, .ld false 1 (.t 20), none⟩, ⟨some 22, .pu (.lens (.t 21)), none⟩, ⟨some 23, .pu (.mov (.c (.i .i64 0))), none⟩]) (.block 0 (.loop c77_2))) .skip)) c77_1)))
def ir77 : IFn := { ntmps := 97, results := rs77, body := c77 }
/-! (*cableway/post.Post).fetched -/
def rs78 : List RV := []
def c78_1 : IC := (.cond (.t 70) (.seq (.region [⟨some 71, .pu (.mov (.t 0)), none⟩, ⟨some 72, .pu (.nilc (.t 71)), none⟩, ⟨some 73, .pu (.fa 8 (.t 72)), none⟩, ⟨none, .ef (.store 1 (.t 73) (.c (.b false))), none⟩]) (.draw [⟨some 74, .pu (.mov (.t 0)), none⟩, ⟨some 75, .pu (.nilc (.t 74)), none⟩, ⟨some 76, .pu (.fa 0 (.t 75)), none⟩, ⟨some 77, .ld false 1 (.t 76), none⟩, ⟨some 78, .ld true 11 (.t 6), none⟩, ⟨some 79, .ef (.call 127 [(.t 77), (.t 78)]), none⟩] [])) .skip)
def o78_2 : List IOp := [⟨some 70, .pu (.pick (.t 66) (.t 69) (.c (.b false))), none⟩] ++ []
def o78_3 : List IOp := [⟨some 67, .pu (.fa 0 (.t 6)), some (66, true)⟩, ⟨some 68, .ld false 1 (.t 67), some (66, true)⟩, ⟨some 69, .pu (.bin .eql (.t 68) (.c (.i .i64 1))), some (66, true)⟩] ++ o78_2
def o78_4 : List IOp := [⟨some 62, .pu (.mov (.t 0)), none⟩, ⟨some 63, .pu (.nilc (.t 62)), none⟩, ⟨some 64, .pu (.fa 8 (.t 63)), none⟩, ⟨some 65, .ld false 1 (.t 64), none⟩, ⟨some 66, .pu (.mov (.t 65)), none⟩] ++ o78_3
def c78 : IC := (.seq (.region [⟨some 7, .pu (.mov (.t 0)), none⟩, ⟨some 8, .pu (.mov (.t 0)), none⟩, ⟨some 9, .pu (.nilc (.t 8)), none⟩, ⟨some 10, .pu (.fa 10 (.t 9)), none⟩, ⟨some 11, .ld true 8 (.t 10), none⟩, ⟨some 12, .pu (.mov (.t 1)), none⟩, ⟨some 13, .ef (.call 73 [(.t 11), (.t 12)]), none⟩, ⟨some 14, .pu (.nilc (.t 7)), none⟩, ⟨some 15, .pu (.fa 10 (.t 14)), none⟩, ⟨none, .ef (.store 8 (.t 15) (.t 13)), none⟩]) (.seq (.region [⟨some 17, .pu (.mov (.t 0)), none⟩, ⟨some 18, .pu (.nilc (.t 17)), none⟩, ⟨some 19, .pu (.fa 10 (.t 18)), none⟩, ⟨some 20, .ld true 8 (.t 19), none⟩, ⟨some 21, .ef (.call 74 [(.t 20)]), none⟩, ⟨some 16, .pu (.mov (.t 21)), none⟩, ⟨some 22, .pu (.ext (.t 16) 0), none⟩, ⟨some 23, .pu (.ext (.t 16) 1), none⟩, ⟨some 4, .pu (.mov (.t 22)), none⟩, ⟨some 5, .pu (.mov (.t 23)), none⟩]) (.seq (.seq (.region [⟨some 24, .pu (.mov (.t 5)), none⟩, ⟨some 25, .pu (.un .not (.t 24)), none⟩]) (.cond (.t 25) .ret .skip)) (.seq (.region [⟨some 26, .pu (.mov (.t 0)), none⟩, ⟨some 27, .pu (.nilc (.t 26)), none⟩, ⟨some 28, .pu (.fa 9 (.t 27)), none⟩, ⟨none, .ef (.store 1 (.t 28) (.c (.i .i64 0))), none⟩]) (.seq (.seq (.region [⟨some 29, .pu (.mov (.t 4)), none⟩, ⟨some 30, .pu (.bin .neq (.t 29) (.c (.i .i64 0))), none⟩]) (.cond (.t 30) .ret .skip)) (.seq (.region [⟨some 31, .pu (.mov (.t 0)), none⟩, ⟨some 32, .pu (.nilc (.t 31)), none⟩, ⟨some 33, .pu (.fa 4 (.t 32)), none⟩, ⟨some 34, .ld false 1 (.t 33), none⟩, ⟨some 35, .pu (.bin .add (.t 34) (.c (.i .u64 1))), none⟩, ⟨some 36, .pu (.nilc (.t 31)), none⟩, ⟨some 37, .pu (.fa 4 (.t 36)), none⟩, ⟨none, .ef (.store 1 (.t 37) (.t 35)), none⟩]) (.seq (.region [⟨some 39, .pu (.mov (.t 0)), none⟩, ⟨some 40, .pu (.nilc (.t 39)), none⟩, ⟨some 41, .pu (.fa 10 (.t 40)), none⟩, ⟨some 42, .ld true 8 (.t 41), none⟩, ⟨some 43, .ef (.call 76 [(.t 42)]), none⟩, ⟨some 44, .ef (.call 75 [(.t 43)]), none⟩, ⟨some 38, .pu (.mov (.t 44)), none⟩, ⟨some 45, .pu (.ext (.t 38) 0), none⟩, ⟨some 46, .pu (.ext (.t 38) 1), none⟩, ⟨some 6, .al (.zero [(.i .i64 0), (.i .i64 0), (.i .i64 0), (.i .i64 0), (.i .i64 0), (.i .u32 0), (.i .i64 0), (.b false), (.b false), (.i .i64 0), (.i .u32 0)]), none⟩, ⟨none, .ef (.store 11 (.t 6) (.t 45)), none⟩, ⟨some 4, .pu (.mov (.t 46)), none⟩]) (.seq (.seq (.region [⟨some 47, .pu (.mov (.t 4)), none⟩, ⟨some 48, .pu (.bin .neq (.t 47) (.c (.i .i64 0))), none⟩]) (.cond (.t 48) .ret .skip)) (.seq (.region [⟨some 49, .pu (.mov (.t 0)), none⟩, ⟨some 50, .pu (.nilc (.t 49)), none⟩, ⟨some 51, .pu (.fa 28 (.t 50)), none⟩, ⟨some 52, .ld false 1 (.t 51), none⟩, ⟨some 53, .pu (.bin .add (.t 52) (.c (.i .i64 1))), none⟩, ⟨some 54, .pu (.nilc (.t 49)), none⟩, ⟨some 55, .pu (.fa 28 (.t 54)), none⟩, ⟨none, .ef (.store 1 (.t 55) (.t 53)), none⟩]) (.seq (.draw [⟨some 56, .pu (.mov (.t 0)), none⟩, ⟨some 57, .pu (.nilc (.t 56)), none⟩, ⟨some 58, .pu (.fa 0 (.t 57)), none⟩, ⟨some 59, .ld false 1 (.t 58), none⟩, ⟨some 60, .ld true 11 (.t 6), none⟩, ⟨some 61, .ef (.call 127 [(.t 59), (.t 60)]), none⟩] []) (.seq (.region o78_4) c78_1)))))))))))
def ir78 : IFn := { ntmps := 80, results := rs78, body := c78 }
/-! (*cableway/post.Post).sent -/
def rs79 : List RV := []
def c79 : IC := (.seq (.region [⟨some 6, .pu (.mov (.t 0)), none⟩, ⟨some 7, .pu (.mov (.t 0)), none⟩, ⟨some 8, .pu (.nilc (.t 7)), none⟩, ⟨some 9, .pu (.fa 18 (.t 8)), none⟩, ⟨some 10, .ld true 9 (.t 9), none⟩, ⟨some 11, .pu (.mov (.t 1)), none⟩, ⟨some 12, .ef (.call 62 [(.t 10), (.t 11)]), none⟩, ⟨some 13, .pu (.nilc (.t 6)), none⟩, ⟨some 14, .pu (.fa 18 (.t 13)), none⟩, ⟨none, .ef (.store 9 (.t 14) (.t 12)), none⟩]) (.seq (.region [⟨some 16, .pu (.mov (.t 0)), none⟩, ⟨some 17, .pu (.nilc (.t 16)), none⟩, ⟨some 18, .pu (.fa 18 (.t 17)), none⟩, ⟨some 19, .ld true 9 (.t 18), none⟩, ⟨some 20, .ef (.call 63 [(.t 19)]), none⟩, ⟨some 15, .pu (.mov (.t 20)), none⟩, ⟨some 21, .pu (.ext (.t 15) 0), none⟩, ⟨some 22, .pu (.ext (.t 15) 1), none⟩, ⟨some 4, .pu (.mov (.t 21)), none⟩, ⟨some 5, .pu (.mov (.t 22)), none⟩]) (.seq (.seq (.region [⟨some 23, .pu (.mov (.t 5)), none⟩, ⟨some 24, .pu (.un .not (.t 23)), none⟩]) (.cond (.t 24) .ret .skip)) (.seq (.region [⟨some 25, .pu (.mov (.t 0)), none⟩, ⟨some 26, .pu (.nilc (.t 25)), none⟩, ⟨some 27, .pu (.fa 9 (.t 26)), none⟩, ⟨none, .ef (.store 1 (.t 27) (.c (.i .i64 0))), none⟩]) (.seq (.region [⟨some 28, .pu (.mov (.t 4)), none⟩, ⟨some 29, .pu (.bin .eql (.t 28) (.c (.i .i64 0))), none⟩]) (.cond (.t 29) (.seq (.draw [⟨some 30, .pu (.mov (.t 0)), none⟩, ⟨some 31, .pu (.nilc (.t 30)), none⟩, ⟨some 32, .pu (.fa 5 (.t 31)), none⟩, ⟨some 33, .ld false 1 (.t 32), none⟩, ⟨some 34, .pu (.mov (.t 0)), none⟩, ⟨some 35, .pu (.nilc (.t 34)), none⟩, ⟨some 36, .pu (.fa 27 (.t 35)), none⟩, ⟨some 37, .ld false 1 (.t 36), none⟩, ⟨some 38, .pu (.ia 1 (.t 33) (.t 37)), none⟩, ⟨some 39, .ld false 1 (.t 38), none⟩, ⟨some 40, .pu (.bin .add (.t 39) (.c (.i .u64 1))), none⟩, ⟨some 41, .pu (.ia 1 (.t 33) (.t 37)), none⟩, ⟨none, .ef (.store 1 (.t 41) (.t 40)), none⟩] []) (.draw [⟨some 42, .pu (.mov (.t 0)), none⟩, ⟨some 43, .pu (.nilc (.t 42)), none⟩, ⟨some 44, .pu (.fa 0 (.t 43)), none⟩, ⟨some 45, .ld false 1 (.t 44), none⟩, ⟨some 46, .pu (.mov (.t 0)), none⟩, ⟨some 47, .pu (.nilc (.t 46)), none⟩, ⟨some 48, .pu (.fa 27 (.t 47)), none⟩, ⟨some 49, .ld false 1 (.t 48), none⟩, ⟨some 50, .ef (.call 128 [(.t 45), (.t 49)]), none⟩] [])) .skip))))))
def ir79 : IFn := { ntmps := 51, results := rs79, body := c79 }
/-! cableway/dedup.New -/
def rs80 : List RV := [(.t 2)]
def c80 : IC := (.seq (.region [⟨some 2, .pu (.mov (.c (.p none))), none⟩]) (.seq (.region [⟨some 3, .pu (.mov (.t 0)), none⟩, ⟨some 4, .pu (.max (.t 3) [(.c (.i .i64 0))]), none⟩, ⟨some 5, .pu (.min (.t 4) [(.c (.i .i64 64))]), none⟩, ⟨some 6, .pu (.bld [(.i .i64 0), .nsl] [(0, 1, (.t 5))]), none⟩, ⟨some 7, .al (.box (.t 6)), none⟩, ⟨some 2, .pu (.mov (.t 7)), none⟩]) .ret))
def ir80 : IFn := { ntmps := 8, results := rs80, body := c80 }
/-! cableway/worker.New -/
def rs81 : List RV := [(.t 2)]
def c81 : IC := (.seq (.region [⟨some 2, .pu (.mov (.c (.p none))), none⟩]) (.seq (.region [⟨some 3, .pu (.mov (.t 0)), none⟩, ⟨some 4, .pu (.max (.t 3) [(.c (.i .i64 0))]), none⟩, ⟨some 5, .pu (.min (.t 4) [(.c (.i .i64 8))]), none⟩, ⟨some 6, .pu (.bld [(.i .i64 0), .nsl, (.b false), (.i .i64 0), (.i .i64 0), (.i .i64 0), (.i .i64 0), (.i .i64 0), (.i .u32 0), (.i .i64 0), (.b false), (.b false), (.i .i64 0), (.i .u32 0), (.i .i64 0), (.i .i64 0)] [(0, 1, (.t 5))]), none⟩, ⟨some 7, .al (.box (.t 6)), none⟩, ⟨some 2, .pu (.mov (.t 7)), none⟩]) .ret))
def ir81 : IFn := { ntmps := 8, results := rs81, body := c81 }
/-! slices.Clone[[]int,int] -/
def rs83 : List RV := [(.t 2)]
def c83 : IC := (.seq (.region [⟨some 2, .pu (.mov (.c .nsl)), none⟩]) (.seq (.seq (.region [⟨some 3, .pu (.mov (.t 0)), none⟩, ⟨some 4, .pu (.eqz false .s (.t 3) (.c .nsl)), none⟩]) (.cond (.t 4) (.seq (.region [⟨some 2, .pu (.mov (.c .nsl)), none⟩]) .ret) .skip)) (.seq (.region [⟨some 5, .al (.sl 0 [] []), none⟩, ⟨some 6, .pu (.mov (.t 0)), none⟩, ⟨some 7, .ef (.app 1 8 (.t 5) (.t 6)), none⟩, ⟨some 2, .pu (.mov (.t 7)), none⟩]) .ret)))
def ir83 : IFn := { ntmps := 8, results := rs83, body := c83 }
/-! slices.Clone[[]cableway/api.Ring,cableway/api.Ring] -/
def rs84 : List RV := [(.t 2)]
def c84 : IC := (.seq (.region [⟨some 2, .pu (.mov (.c .nsl)), none⟩]) (.seq (.seq (.region [⟨some 3, .pu (.mov (.t 0)), none⟩, ⟨some 4, .pu (.eqz false .s (.t 3) (.c .nsl)), none⟩]) (.cond (.t 4) (.seq (.region [⟨some 2, .pu (.mov (.c .nsl)), none⟩]) .ret) .skip)) (.seq (.region [⟨some 5, .al (.sl 0 [] []), none⟩, ⟨some 6, .pu (.mov (.t 0)), none⟩, ⟨some 7, .ef (.app 2 16 (.t 5) (.t 6)), none⟩, ⟨some 2, .pu (.mov (.t 7)), none⟩]) .ret)))
def ir84 : IFn := { ntmps := 8, results := rs84, body := c84 }
/-! (*cableway/arena.Arena).Write -/
def rs85 : List RV := []
def c85 : IC := (.seq (.region [⟨some 6, .pu (.mov (.t 0)), none⟩, ⟨some 7, .pu (.mov (.t 1)), none⟩, ⟨some 8, .ef (.call 129 [(.t 6), (.t 7)]), none⟩]) (.cond (.t 8) (.region [⟨some 9, .pu (.mov (.t 0)), none⟩, ⟨some 10, .pu (.nilc (.t 9)), none⟩, ⟨some 11, .pu (.fa 0 (.t 10)), none⟩, ⟨some 12, .ld false 1 (.t 11), none⟩, ⟨some 13, .pu (.mov (.t 1)), none⟩, ⟨some 14, .pu (.mov (.t 2)), none⟩, ⟨some 15, .pu (.ia 1 (.t 12) (.t 13)), none⟩, ⟨none, .ef (.store 1 (.t 15) (.t 14)), none⟩]) .skip))
def ir85 : IFn := { ntmps := 16, results := rs85, body := c85 }
/-! cableway/send.Lone -/
def rs87 : List RV := [(.c 6 true 9)]
def c87 : IC := (.seq (.region [⟨some 3, .al (.box (.t 0)), none⟩, ⟨some 4, .al (.box (.t 1)), none⟩, ⟨some 6, .al (.zero [(.i .i64 0), (.i .i64 0), (.i .u64 0), (.i .u64 0), (.i .u64 0), (.i .u64 0), (.i .i64 0), (.b false), (.b false)]), none⟩]) (.seq (.region [⟨some 7, .ld true 2 (.t 3), none⟩, ⟨some 8, .ld true 3 (.t 4), none⟩, ⟨some 9, .pu (.mov (.t 2)), none⟩, ⟨some 10, .pu (.bld [(.i .i64 0), (.i .i64 0), (.i .u64 0), (.i .u64 0), (.i .u64 0), (.i .u64 0), (.i .i64 0), (.b false), (.b false)] [(0, 2, (.t 7)), (2, 3, (.t 8)), (5, 1, (.t 9)), (6, 1, (.c (.i .i64 1))), (7, 1, (.c (.b true)))]), none⟩, ⟨none, .ef (.store 9 (.t 6) (.t 10)), none⟩]) .ret))
def ir87 : IFn := { ntmps := 11, results := rs87, body := c87 }
/-! cableway/ring.May -/
def rs103 : List RV := [(.t 2)]
def o103_1 : List IOp := [⟨some 31, .pu (.pick (.t 24) (.t 30) (.c (.b false))), none⟩, ⟨some 2, .pu (.mov (.t 31)), none⟩] ++ []
def o103_2 : List IOp := [⟨some 25, .pu (.fa 0 (.t 1)), some (24, true)⟩, ⟨some 26, .ld false 1 (.t 25), some (24, true)⟩, ⟨some 27, .pu (.mov (.t 3)), some (24, true)⟩, ⟨some 28, .ef (.call 104 [(.t 27)]), some (24, true)⟩, ⟨some 29, .pu (.bin .sub (.c (.i .i64 16384)) (.t 28)), some (24, true)⟩, ⟨some 30, .pu (.bin .leq (.t 26) (.t 29)), some (24, true)⟩] ++ o103_1
def o103_3 : List IOp := [⟨some 23, .pu (.pick (.t 19) (.t 22) (.c (.b false))), none⟩, ⟨some 24, .pu (.mov (.t 23)), none⟩] ++ o103_2
def o103_4 : List IOp := [⟨some 20, .pu (.fa 0 (.t 1)), some (19, true)⟩, ⟨some 21, .ld false 1 (.t 20), some (19, true)⟩, ⟨some 22, .pu (.bin .geq (.t 21) (.c (.i .i64 0))), some (19, true)⟩] ++ o103_3
def o103_5 : List IOp := [⟨some 18, .pu (.pick (.t 12) (.t 17) (.c (.b false))), none⟩, ⟨some 19, .pu (.mov (.t 18)), none⟩] ++ o103_4
def o103_6 : List IOp := [⟨some 13, .pu (.mov (.t 3)), some (12, true)⟩, ⟨some 14, .pu (.mov (.t 3)), some (12, true)⟩, ⟨some 15, .pu (.bin .sub (.t 14) (.c (.i .i64 1))), some (12, true)⟩, ⟨some 16, .pu (.bin .and (.t 13) (.t 15)), some (12, true)⟩, ⟨some 17, .pu (.bin .eql (.t 16) (.c (.i .i64 0))), some (12, true)⟩] ++ o103_5
def o103_7 : List IOp := [⟨some 11, .pu (.pick (.t 8) (.t 10) (.c (.b false))), none⟩, ⟨some 12, .pu (.mov (.t 11)), none⟩] ++ o103_6
def o103_8 : List IOp := [⟨some 9, .pu (.mov (.t 3)), some (8, true)⟩, ⟨some 10, .pu (.bin .leq (.t 9) (.c (.i .i64 64))), some (8, true)⟩] ++ o103_7
def o103_9 : List IOp := [⟨some 6, .pu (.mov (.t 3)), none⟩, ⟨some 7, .pu (.bin .geq (.t 6) (.c (.i .i64 2))), none⟩, ⟨some 8, .pu (.mov (.t 7)), none⟩] ++ o103_8
def c103 : IC := (.seq (.region [⟨some 1, .al (.box (.t 0)), none⟩, ⟨some 2, .pu (.mov (.c (.b false))), none⟩]) (.seq (.region [⟨some 4, .pu (.fa 1 (.t 1)), none⟩, ⟨some 5, .ld false 1 (.t 4), none⟩, ⟨some 3, .pu (.mov (.t 5)), none⟩]) (.seq (.draw o103_9 [(20, 22)]) .ret)))
def ir103 : IFn := { ntmps := 32, results := rs103, body := c103 }
/-! cableway/ring.Cells -/
def rs104 : List RV := [(.t 2)]
def c104 : IC := (.seq (.region [⟨some 2, .pu (.mov (.c (.i .i64 0))), none⟩]) (.seq (.region [⟨some 3, .pu (.mov (.t 0)), none⟩, ⟨some 4, .pu (.max (.t 3) [(.c (.i .i64 0))]), none⟩, ⟨some 5, .pu (.min (.t 4) [(.c (.i .i64 64))]), none⟩, ⟨some 6, .pu (.bin .mul (.t 5) (.c (.i .i64 4))), none⟩, ⟨some 7, .pu (.bin .add (.c (.i .i64 1)) (.t 6)), none⟩, ⟨some 2, .pu (.mov (.t 7)), none⟩]) .ret))
def ir104 : IFn := { ntmps := 8, results := rs104, body := c104 }
/-! (*cableway/arena.Arena).Len -/
def rs105 : List RV := [(.t 2)]
def c105 : IC := (.seq (.region [⟨some 2, .pu (.mov (.c (.i .i64 0))), none⟩]) (.seq (.seq (.region [⟨some 3, .pu (.mov (.t 0)), none⟩, ⟨some 4, .pu (.eqz false .p (.t 3) (.c (.p none))), none⟩]) (.cond (.t 4) (.seq (.region [⟨some 2, .pu (.mov (.c (.i .i64 0))), none⟩]) .ret) .skip)) (.seq (.region [⟨some 5, .pu (.mov (.t 0)), none⟩, ⟨some 6, .pu (.nilc (.t 5)), none⟩, ⟨some 7, .pu (.fa 0 (.t 6)), none⟩, ⟨some 8, .ld false 1 (.t 7), none⟩, ⟨some 9, .pu (.lens (.t 8)), none⟩, ⟨some 2, .pu (.mov (.t 9)), none⟩]) .ret)))
def ir105 : IFn := { ntmps := 10, results := rs105, body := c105 }
/-! cableway/ring.place -/
def rs106 : List RV := [(.t 4)]
def c106 : IC := (.seq (.region [⟨some 2, .al (.box (.t 0)), none⟩, ⟨some 4, .pu (.mov (.c (.i .i64 0))), none⟩]) (.seq (.draw [⟨some 5, .pu (.fa 0 (.t 2)), none⟩, ⟨some 6, .ld false 1 (.t 5), none⟩, ⟨some 7, .pu (.bin .add (.t 6) (.c (.i .i64 1))), none⟩, ⟨some 8, .pu (.mov (.t 1)), none⟩, ⟨some 9, .pu (.fa 1 (.t 2)), none⟩, ⟨some 10, .ld false 1 (.t 9), none⟩, ⟨some 11, .pu (.cvi .u64 (.t 10)), none⟩, ⟨some 12, .pu (.bin .rem (.t 8) (.t 11)), none⟩, ⟨some 13, .pu (.cvi .i64 (.t 12)), none⟩, ⟨some 14, .pu (.bin .mul (.t 13) (.c (.i .i64 4))), none⟩, ⟨some 15, .pu (.bin .add (.t 7) (.t 14)), none⟩, ⟨some 4, .pu (.mov (.t 15)), none⟩] []) .ret))
def ir106 : IFn := { ntmps := 16, results := rs106, body := c106 }
/-! cableway/frame.May -/
def rs107 : List RV := [(.t 2)]
def o107_1 : List IOp := [⟨some 40, .pu (.pick (.t 36) (.t 39) (.c (.b false))), none⟩, ⟨some 2, .pu (.mov (.t 40)), none⟩] ++ []
def o107_2 : List IOp := [⟨some 37, .pu (.fa 9 (.t 1)), some (36, true)⟩, ⟨some 38, .ld false 1 (.t 37), some (36, true)⟩, ⟨some 39, .ef (.call 148 [(.t 38), (.c (.i .i64 65535))]), some (36, true)⟩] ++ o107_1
def o107_3 : List IOp := [⟨some 35, .pu (.pick (.t 31) (.t 34) (.c (.b false))), none⟩, ⟨some 36, .pu (.mov (.t 35)), none⟩] ++ o107_2
def o107_4 : List IOp := [⟨some 32, .pu (.fa 6 (.t 1)), some (31, true)⟩, ⟨some 33, .ld false 1 (.t 32), some (31, true)⟩, ⟨some 34, .ef (.call 148 [(.t 33), (.c (.i .i64 15))]), some (31, true)⟩] ++ o107_3
def o107_5 : List IOp := [⟨some 30, .pu (.pick (.t 26) (.t 29) (.c (.b false))), none⟩, ⟨some 31, .pu (.mov (.t 30)), none⟩] ++ o107_4
def o107_6 : List IOp := [⟨some 27, .pu (.fa 4 (.t 1)), some (26, true)⟩, ⟨some 28, .ld false 1 (.t 27), some (26, true)⟩, ⟨some 29, .ef (.call 148 [(.t 28), (.c (.i .i64 16777215))]), some (26, true)⟩] ++ o107_5
def o107_7 : List IOp := [⟨some 25, .pu (.pick (.t 21) (.t 24) (.c (.b false))), none⟩, ⟨some 26, .pu (.mov (.t 25)), none⟩] ++ o107_6
def o107_8 : List IOp := [⟨some 22, .pu (.fa 3 (.t 1)), some (21, true)⟩, ⟨some 23, .ld false 1 (.t 22), some (21, true)⟩, ⟨some 24, .ef (.call 148 [(.t 23), (.c (.i .i64 15))]), some (21, true)⟩] ++ o107_7
def o107_9 : List IOp := [⟨some 20, .pu (.pick (.t 16) (.t 19) (.c (.b false))), none⟩, ⟨some 21, .pu (.mov (.t 20)), none⟩] ++ o107_8
def o107_10 : List IOp := [⟨some 17, .pu (.fa 2 (.t 1)), some (16, true)⟩, ⟨some 18, .ld false 1 (.t 17), some (16, true)⟩, ⟨some 19, .ef (.call 148 [(.t 18), (.c (.i .i64 3))]), some (16, true)⟩] ++ o107_9
def o107_11 : List IOp := [⟨some 15, .pu (.pick (.t 11) (.t 14) (.c (.b false))), none⟩, ⟨some 16, .pu (.mov (.t 15)), none⟩] ++ o107_10
def o107_12 : List IOp := [⟨some 12, .pu (.fa 1 (.t 1)), some (11, true)⟩, ⟨some 13, .ld false 1 (.t 12), some (11, true)⟩, ⟨some 14, .ef (.call 148 [(.t 13), (.c (.i .i64 3))]), some (11, true)⟩] ++ o107_11
def o107_13 : List IOp := [⟨some 10, .pu (.pick (.t 6) (.t 9) (.c (.b false))), none⟩, ⟨some 11, .pu (.mov (.t 10)), none⟩] ++ o107_12
def o107_14 : List IOp := [⟨some 7, .pu (.fa 0 (.t 1)), some (6, true)⟩, ⟨some 8, .ld false 1 (.t 7), some (6, true)⟩, ⟨some 9, .pu (.bin .leq (.t 8) (.c (.i .i64 10))), some (6, true)⟩] ++ o107_13
def o107_15 : List IOp := [⟨some 3, .pu (.fa 0 (.t 1)), none⟩, ⟨some 4, .ld false 1 (.t 3), none⟩, ⟨some 5, .pu (.bin .geq (.t 4) (.c (.i .i64 1))), none⟩, ⟨some 6, .pu (.mov (.t 5)), none⟩] ++ o107_14
def c107 : IC := (.seq (.region [⟨some 1, .al (.box (.t 0)), none⟩, ⟨some 2, .pu (.mov (.c (.b false))), none⟩]) (.seq (.region o107_15) .ret))
def ir107 : IFn := { ntmps := 41, results := rs107, body := c107 }
/-! (cableway/field.Field).Put -/
def rs108 : List RV := [(.t 6)]
def c108 : IC := (.seq (.region [⟨some 3, .al (.box (.t 0)), none⟩, ⟨some 6, .pu (.mov (.c (.i .u64 0))), none⟩]) (.seq (.seq (.region [⟨some 7, .ld true 2 (.t 3), none⟩, ⟨some 8, .ef (.call 149 [(.t 7)]), none⟩, ⟨some 9, .pu (.un .not (.t 8)), none⟩]) (.cond (.t 9) (.seq (.region [⟨some 10, .pu (.mov (.t 1)), none⟩, ⟨some 6, .pu (.mov (.t 10)), none⟩]) .ret) .skip)) (.seq (.draw [⟨some 11, .pu (.mov (.t 1)), none⟩, ⟨some 12, .ld true 2 (.t 3), none⟩, ⟨some 13, .ef (.call 150 [(.t 12)]), none⟩, ⟨some 14, .pu (.bin .andNot (.t 11) (.t 13)), none⟩, ⟨some 15, .pu (.mov (.t 2)), none⟩, ⟨some 16, .ld true 2 (.t 3), none⟩, ⟨some 17, .ef (.call 151 [(.t 16)]), none⟩, ⟨some 18, .pu (.min (.t 15) [(.t 17)]), none⟩, ⟨some 19, .pu (.fa 0 (.t 3)), none⟩, ⟨some 20, .ld false 1 (.t 19), none⟩, ⟨some 21, .pu (.bin .shl (.t 18) (.t 20)), none⟩, ⟨some 22, .pu (.bin .or (.t 14) (.t 21)), none⟩, ⟨some 6, .pu (.mov (.t 22)), none⟩] [(5, 2), (9, 2), (9, 6)]) .ret)))
def ir108 : IFn := { ntmps := 23, results := rs108, body := c108 }
/-! cableway/frame.bit -/
def rs109 : List RV := [(.t 2)]
def c109 : IC := (.seq (.region [⟨some 2, .pu (.mov (.c (.i .u64 0))), none⟩]) (.seq (.seq (.region [⟨some 3, .pu (.mov (.t 0)), none⟩]) (.cond (.t 3) (.seq (.region [⟨some 2, .pu (.mov (.c (.i .u64 1))), none⟩]) .ret) .skip)) (.seq (.region [⟨some 2, .pu (.mov (.c (.i .u64 0))), none⟩]) .ret)))
def ir109 : IFn := { ntmps := 4, results := rs109, body := c109 }
/-! (*cableway/arena.Arena).Read -/
def rs110 : List RV := [(.t 4)]
def c110 : IC := (.seq (.region [⟨some 4, .pu (.mov (.c (.i .u64 0))), none⟩]) (.seq (.seq (.region [⟨some 5, .pu (.mov (.t 0)), none⟩, ⟨some 6, .pu (.mov (.t 1)), none⟩, ⟨some 7, .ef (.call 129 [(.t 5), (.t 6)]), none⟩, ⟨some 8, .pu (.un .not (.t 7)), none⟩]) (.cond (.t 8) (.seq (.region [⟨some 4, .pu (.mov (.c (.i .u64 0))), none⟩]) .ret) .skip)) (.seq (.region [⟨some 9, .pu (.mov (.t 0)), none⟩, ⟨some 10, .pu (.nilc (.t 9)), none⟩, ⟨some 11, .pu (.fa 0 (.t 10)), none⟩, ⟨some 12, .ld false 1 (.t 11), none⟩, ⟨some 13, .pu (.mov (.t 1)), none⟩, ⟨some 14, .pu (.ia 1 (.t 12) (.t 13)), none⟩, ⟨some 15, .ld false 1 (.t 14), none⟩, ⟨some 4, .pu (.mov (.t 15)), none⟩]) .ret)))
def ir110 : IFn := { ntmps := 16, results := rs110, body := c110 }
/-! cableway/ring.Tail -/
def rs111 : List RV := [(.t 2)]
def c111 : IC := (.seq (.region [⟨some 1, .al (.box (.t 0)), none⟩, ⟨some 2, .pu (.mov (.c (.i .i64 0))), none⟩]) (.seq (.seq (.region [⟨some 3, .ld true 2 (.t 1), none⟩, ⟨some 4, .ef (.call 103 [(.t 3)]), none⟩, ⟨some 5, .pu (.un .not (.t 4)), none⟩]) (.cond (.t 5) (.seq (.region [⟨some 2, .pu (.mov (.c (.i .i64 (-1)))), none⟩]) .ret) .skip)) (.seq (.region [⟨some 6, .pu (.fa 0 (.t 1)), none⟩, ⟨some 7, .ld false 1 (.t 6), none⟩, ⟨some 2, .pu (.mov (.t 7)), none⟩]) .ret)))
def ir111 : IFn := { ntmps := 8, results := rs111, body := c111 }
/-! (cableway/send.Task).stands -/
def rs112 : List RV := [(.c 4 true 9)]
def c112_1 : IC := (.seq (.region [⟨some 32, .ld true 9 (.t 2), none⟩, ⟨none, .ef (.store 9 (.t 4) (.t 32)), none⟩]) .ret)
def c112_3 : IC := (.cond (.t 22) (.region [⟨some 31, .pu (.fa 8 (.t 2)), none⟩, ⟨none, .ef (.store 1 (.t 31) (.c (.b true))), none⟩]) (.region [⟨some 5, .pu (.fa 6 (.t 2)), none⟩, ⟨none, .ef (.store 1 (.t 5) (.c (.i .i64 0))), none⟩]))
def o112_4 : List IOp := [⟨some 30, .pu (.pick (.t 27) (.c (.b true)) (.t 29)), none⟩, ⟨some 22, .pu (.mov (.t 30)), none⟩] ++ []
def o112_5 : List IOp := [⟨some 28, .pu (.fa 7 (.t 2)), some (27, false)⟩, ⟨some 29, .ld false 1 (.t 28), some (27, false)⟩] ++ o112_4
def o112_6 : List IOp := [⟨some 23, .pu (.mov (.t 1)), none⟩, ⟨some 24, .pu (.fa 5 (.t 2)), none⟩, ⟨some 25, .ld false 1 (.t 24), none⟩, ⟨some 26, .pu (.bin .lss (.t 23) (.t 25)), none⟩, ⟨some 27, .pu (.mov (.t 26)), none⟩] ++ o112_5
def c112_2 : IC := (.cond (.t 6) (.region [⟨some 15, .pu (.fa 6 (.t 2)), none⟩, ⟨none, .ef (.store 1 (.t 15) (.c (.i .i64 3))), none⟩]) (.seq (.region [⟨some 17, .pu (.mov (.t 1)), none⟩, ⟨some 18, .pu (.fa 5 (.t 2)), none⟩, ⟨some 19, .ld false 1 (.t 18), none⟩, ⟨some 20, .pu (.bin .eql (.t 17) (.t 19)), none⟩, ⟨some 16, .pu (.mov (.t 20)), none⟩]) (.cond (.t 16) (.region [⟨some 21, .pu (.fa 6 (.t 2)), none⟩, ⟨none, .ef (.store 1 (.t 21) (.c (.i .i64 2))), none⟩]) (.seq (.region o112_6) c112_3))))
def o112_8 : List IOp := [⟨some 14, .pu (.pick (.t 11) (.t 13) (.c (.b false))), none⟩, ⟨some 6, .pu (.mov (.t 14)), none⟩] ++ []
def o112_9 : List IOp := [⟨some 12, .pu (.fa 7 (.t 2)), some (11, true)⟩, ⟨some 13, .ld false 1 (.t 12), some (11, true)⟩] ++ o112_8
def o112_10 : List IOp := [⟨some 7, .pu (.mov (.t 1)), none⟩, ⟨some 8, .pu (.fa 5 (.t 2)), none⟩, ⟨some 9, .ld false 1 (.t 8), none⟩, ⟨some 10, .pu (.bin .eql (.t 7) (.t 9)), none⟩, ⟨some 11, .pu (.mov (.t 10)), none⟩] ++ o112_9
def c112 : IC := (.seq (.region [⟨some 2, .al (.box (.t 0)), none⟩, ⟨some 4, .al (.zero [(.i .i64 0), (.i .i64 0), (.i .u64 0), (.i .u64 0), (.i .u64 0), (.i .u64 0), (.i .i64 0), (.b false), (.b false)]), none⟩]) (.seq (.block 0 (.seq (.region o112_10) c112_2)) c112_1))
def ir112 : IFn := { ntmps := 33, results := rs112, body := c112 }
/-! cableway/ring.Stand -/
def rs113 : List RV := [(.t 4)]
def c113 : IC := (.seq (.region [⟨some 2, .al (.box (.t 0)), none⟩, ⟨some 4, .pu (.mov (.c (.i .i64 0))), none⟩]) (.seq (.seq (.region [⟨some 5, .ld true 2 (.t 2), none⟩, ⟨some 6, .ef (.call 103 [(.t 5)]), none⟩, ⟨some 7, .pu (.un .not (.t 6)), none⟩]) (.cond (.t 7) (.seq (.region [⟨some 4, .pu (.mov (.c (.i .i64 (-1)))), none⟩]) .ret) .skip)) (.seq (.region [⟨some 8, .ld true 2 (.t 2), none⟩, ⟨some 9, .pu (.mov (.t 1)), none⟩, ⟨some 10, .ef (.call 106 [(.t 8), (.t 9)]), none⟩, ⟨some 4, .pu (.mov (.t 10)), none⟩]) .ret)))
def ir113 : IFn := { ntmps := 11, results := rs113, body := c113 }
/-! (*cableway/arena.Arena).Swap -/
def rs114 : List RV := [(.t 8)]
def c114_1 : IC := (.seq (.region [⟨some 24, .pu (.mov (.t 0)), none⟩, ⟨some 25, .pu (.nilc (.t 24)), none⟩, ⟨some 26, .pu (.fa 0 (.t 25)), none⟩, ⟨some 27, .ld false 1 (.t 26), none⟩, ⟨some 28, .pu (.mov (.t 1)), none⟩, ⟨some 29, .pu (.mov (.t 3)), none⟩, ⟨some 30, .pu (.ia 1 (.t 27) (.t 28)), none⟩, ⟨none, .ef (.store 1 (.t 30) (.t 29)), none⟩]) (.seq (.region [⟨some 8, .pu (.mov (.c (.b true))), none⟩]) .ret))
def c114_2 : IC := (.cond (.t 23) (.seq (.region [⟨some 8, .pu (.mov (.c (.b false))), none⟩]) .ret) .skip)
def o114_3 : List IOp := [⟨some 23, .pu (.pick (.t 13) (.c (.b true)) (.t 22)), none⟩] ++ []
def o114_4 : List IOp := [⟨some 14, .pu (.mov (.t 0)), some (13, false)⟩, ⟨some 15, .pu (.nilc (.t 14)), some (13, false)⟩, ⟨some 16, .pu (.fa 0 (.t 15)), some (13, false)⟩, ⟨some 17, .ld false 1 (.t 16), some (13, false)⟩, ⟨some 18, .pu (.mov (.t 1)), some (13, false)⟩, ⟨some 19, .pu (.ia 1 (.t 17) (.t 18)), some (13, false)⟩, ⟨some 20, .ld false 1 (.t 19), some (13, false)⟩, ⟨some 21, .pu (.mov (.t 2)), some (13, false)⟩, ⟨some 22, .pu (.bin .neq (.t 20) (.t 21)), some (13, false)⟩] ++ o114_3
def o114_5 : List IOp := [⟨some 9, .pu (.mov (.t 0)), none⟩, ⟨some 10, .pu (.mov (.t 1)), none⟩, ⟨some 11, .ef (.call 129 [(.t 9), (.t 10)]), none⟩, ⟨some 12, .pu (.un .not (.t 11)), none⟩, ⟨some 13, .pu (.mov (.t 12)), none⟩] ++ o114_4
def c114 : IC := (.seq (.region [⟨some 8, .pu (.mov (.c (.b false))), none⟩]) (.seq (.seq (.region o114_5) c114_2) c114_1))
def ir114 : IFn := { ntmps := 31, results := rs114, body := c114 }
/-! cableway/ring.Data -/
def rs115 : List RV := [(.t 6)]
def c115_1 : IC := (.seq (.region [⟨some 18, .ld true 2 (.t 3), none⟩, ⟨some 19, .pu (.mov (.t 1)), none⟩, ⟨some 20, .ef (.call 106 [(.t 18), (.t 19)]), none⟩, ⟨some 21, .pu (.bin .add (.t 20) (.c (.i .i64 1))), none⟩, ⟨some 22, .pu (.mov (.t 2)), none⟩, ⟨some 23, .pu (.bin .add (.t 21) (.t 22)), none⟩, ⟨some 6, .pu (.mov (.t 23)), none⟩]) .ret)
def c115_2 : IC := (.cond (.t 17) (.seq (.region [⟨some 6, .pu (.mov (.c (.i .i64 (-1)))), none⟩]) .ret) .skip)
def o115_3 : List IOp := [⟨some 17, .pu (.pick (.t 14) (.c (.b true)) (.t 16)), none⟩] ++ []
def o115_4 : List IOp := [⟨some 15, .pu (.mov (.t 2)), some (14, false)⟩, ⟨some 16, .pu (.bin .geq (.t 15) (.c (.i .i64 3))), some (14, false)⟩] ++ o115_3
def o115_5 : List IOp := [⟨some 13, .pu (.pick (.t 10) (.c (.b true)) (.t 12)), none⟩, ⟨some 14, .pu (.mov (.t 13)), none⟩] ++ o115_4
def o115_6 : List IOp := [⟨some 11, .pu (.mov (.t 2)), some (10, false)⟩, ⟨some 12, .pu (.bin .lss (.t 11) (.c (.i .i64 0))), some (10, false)⟩] ++ o115_5
def o115_7 : List IOp := [⟨some 7, .ld true 2 (.t 3), none⟩, ⟨some 8, .ef (.call 103 [(.t 7)]), none⟩, ⟨some 9, .pu (.un .not (.t 8)), none⟩, ⟨some 10, .pu (.mov (.t 9)), none⟩] ++ o115_6
def c115 : IC := (.seq (.region [⟨some 3, .al (.box (.t 0)), none⟩, ⟨some 6, .pu (.mov (.c (.i .i64 0))), none⟩]) (.seq (.seq (.region o115_7) c115_2) c115_1))
def ir115 : IFn := { ntmps := 24, results := rs115, body := c115 }
/-! (cableway/credit.Server).More -/
def rs116 : List RV := [(.c 4 true 2)]
def c116 : IC := (.seq (.region [⟨some 2, .al (.box (.t 0)), none⟩, ⟨some 4, .al (.zero [(.i .i64 0), (.i .i64 0)]), none⟩]) (.seq (.region [⟨some 5, .pu (.fa 0 (.t 2)), none⟩, ⟨some 6, .ld false 1 (.t 5), none⟩, ⟨some 7, .pu (.mov (.t 1)), none⟩, ⟨some 8, .pu (.max (.t 7) [(.c (.i .i64 0))]), none⟩, ⟨some 9, .pu (.min (.t 8) [(.c (.i .i64 16))]), none⟩, ⟨some 10, .pu (.bin .add (.t 6) (.t 9)), none⟩, ⟨some 11, .pu (.fa 0 (.t 2)), none⟩, ⟨none, .ef (.store 1 (.t 11) (.t 10)), none⟩]) (.seq (.region [⟨some 12, .ld true 2 (.t 2), none⟩, ⟨none, .ef (.store 2 (.t 4) (.t 12)), none⟩]) .ret)))
def ir116 : IFn := { ntmps := 13, results := rs116, body := c116 }
/-! cableway/credit.Window -/
def rs117 : List RV := [(.t 2)]
def c117 : IC := (.seq (.region [⟨some 2, .pu (.mov (.c (.i .i64 0))), none⟩]) (.seq (.region [⟨some 3, .pu (.mov (.t 0)), none⟩, ⟨some 4, .pu (.max (.t 3) [(.c (.i .i64 1))]), none⟩, ⟨some 5, .pu (.min (.t 4) [(.c (.i .i64 16))]), none⟩, ⟨some 2, .pu (.mov (.t 5)), none⟩]) .ret))
def ir117 : IFn := { ntmps := 6, results := rs117, body := c117 }
/-! (*cableway/worker.Worker).answer -/
def rs118 : List RV := [(.c 8 true 11)]
def c118 : IC := (.seq (.region [⟨some 8, .al (.zero [(.i .i64 0), (.i .i64 0), (.i .i64 0), (.i .i64 0), (.i .i64 0), (.i .u32 0), (.i .i64 0), (.b false), (.b false), (.i .i64 0), (.i .u32 0)]), none⟩]) (.seq (.region [⟨some 10, .pu (.mov (.t 0)), none⟩, ⟨some 11, .pu (.nilc (.t 10)), none⟩, ⟨some 12, .pu (.fa 3 (.t 11)), none⟩, ⟨some 13, .ld true 11 (.t 12), none⟩, ⟨some 9, .al (.zero [(.i .i64 0), (.i .i64 0), (.i .i64 0), (.i .i64 0), (.i .i64 0), (.i .u32 0), (.i .i64 0), (.b false), (.b false), (.i .i64 0), (.i .u32 0)]), none⟩, ⟨none, .ef (.store 11 (.t 9) (.t 13)), none⟩]) (.seq (.region [⟨some 14, .pu (.mov (.t 1)), none⟩, ⟨some 15, .pu (.mov (.t 2)), none⟩, ⟨some 16, .pu (.mov (.t 3)), none⟩, ⟨some 17, .pu (.fa 0 (.t 9)), none⟩, ⟨none, .ef (.store 1 (.t 17) (.t 14)), none⟩, ⟨some 18, .pu (.fa 9 (.t 9)), none⟩, ⟨none, .ef (.store 1 (.t 18) (.t 15)), none⟩, ⟨some 19, .pu (.fa 10 (.t 9)), none⟩, ⟨none, .ef (.store 1 (.t 19) (.t 16)), none⟩]) (.seq (.region [⟨some 20, .ld true 11 (.t 9), none⟩, ⟨none, .ef (.store 11 (.t 8) (.t 20)), none⟩]) .ret))))
def ir118 : IFn := { ntmps := 21, results := rs118, body := c118 }
/-! cableway/handler.Run -/
def rs120 : List RV := [(.t 6), (.t 7), (.t 8)]
def c120 : IC := (.seq (.region [⟨some 6, .pu (.mov (.c (.i .u32 0))), none⟩, ⟨some 7, .pu (.mov (.c (.i .u32 0))), none⟩, ⟨some 8, .pu (.mov (.c (.b false))), none⟩]) (.seq (.seq (.region [⟨some 9, .pu (.mov (.t 0)), none⟩]) (.block 0 (.seq (.region [⟨some 11, .pu (.bin .eql (.t 9) (.c (.i .i64 0))), none⟩, ⟨some 10, .pu (.mov (.t 11)), none⟩]) (.cond (.t 10) (.seq (.region [⟨some 12, .pu (.mov (.t 1)), none⟩, ⟨some 13, .pu (.mov (.t 2)), none⟩, ⟨some 6, .pu (.mov (.t 12)), none⟩, ⟨some 7, .pu (.mov (.t 13)), none⟩, ⟨some 8, .pu (.mov (.c (.b true))), none⟩]) .ret) (.seq (.region [⟨some 15, .pu (.bin .eql (.t 9) (.c (.i .i64 1))), none⟩, ⟨some 14, .pu (.mov (.t 15)), none⟩]) (.cond (.t 14) (.seq (.region [⟨some 16, .pu (.mov (.t 2)), none⟩, ⟨some 17, .pu (.mov (.t 1)), none⟩, ⟨some 18, .pu (.bin .add (.t 16) (.t 17)), none⟩, ⟨some 19, .pu (.mov (.t 2)), none⟩, ⟨some 20, .pu (.mov (.t 1)), none⟩, ⟨some 21, .pu (.bin .add (.t 19) (.t 20)), none⟩, ⟨some 6, .pu (.mov (.t 18)), none⟩, ⟨some 7, .pu (.mov (.t 21)), none⟩, ⟨some 8, .pu (.mov (.c (.b true))), none⟩]) .ret) (.seq (.region [⟨some 23, .pu (.bin .eql (.t 9) (.c (.i .i64 2))), none⟩, ⟨some 22, .pu (.mov (.t 23)), none⟩]) (.cond (.t 22) (.seq (.region [⟨some 24, .pu (.mov (.t 2)), none⟩, ⟨some 25, .pu (.mov (.t 2)), none⟩, ⟨some 6, .pu (.mov (.t 24)), none⟩, ⟨some 7, .pu (.mov (.t 25)), none⟩, ⟨some 8, .pu (.mov (.c (.b true))), none⟩]) .ret) (.seq (.region [⟨some 27, .pu (.bin .eql (.t 9) (.c (.i .i64 3))), none⟩, ⟨some 26, .pu (.mov (.t 27)), none⟩]) (.cond (.t 26) (.seq (.region [⟨some 28, .pu (.mov (.t 1)), none⟩, ⟨some 29, .pu (.bin .mul (.c (.i .u32 2)) (.t 28)), none⟩, ⟨some 30, .pu (.mov (.t 2)), none⟩, ⟨some 6, .pu (.mov (.t 29)), none⟩, ⟨some 7, .pu (.mov (.t 30)), none⟩, ⟨some 8, .pu (.mov (.c (.b true))), none⟩]) .ret) .skip)))))))))) (.seq (.region [⟨some 31, .pu (.mov (.t 2)), none⟩, ⟨some 6, .pu (.mov (.c (.i .u32 0))), none⟩, ⟨some 7, .pu (.mov (.t 31)), none⟩, ⟨some 8, .pu (.mov (.c (.b false))), none⟩]) .ret)))
def ir120 : IFn := { ntmps := 32, results := rs120, body := c120 }
/-! (*cableway/dedup.Cache).Done -/
def rs123 : List RV := []
def c123_1 : IC := (.cond (.t 26) (.draw [⟨some 27, .pu (.mov (.t 0)), none⟩, ⟨some 28, .pu (.nilc (.t 27)), none⟩, ⟨some 29, .pu (.fa 1 (.t 28)), none⟩, ⟨some 30, .ld false 1 (.t 29), none⟩, ⟨some 31, .pu (.mov (.t 8)), none⟩, ⟨some 32, .pu (.mov (.t 0)), none⟩, ⟨some 33, .pu (.nilc (.t 32)), none⟩, ⟨some 34, .pu (.fa 1 (.t 33)), none⟩, ⟨some 35, .ld false 1 (.t 34), none⟩, ⟨some 36, .pu (.mov (.t 8)), none⟩, ⟨some 37, .pu (.mov (.t 0)), none⟩, ⟨some 38, .pu (.nilc (.t 37)), none⟩, ⟨some 39, .pu (.fa 1 (.t 38)), none⟩, ⟨some 40, .ld false 1 (.t 39), none⟩, ⟨some 41, .pu (.mov (.t 8)), none⟩, ⟨some 42, .pu (.mov (.t 2)), none⟩, ⟨some 43, .pu (.mov (.t 3)), none⟩, ⟨some 44, .pu (.ia 7 (.t 30) (.t 31)), none⟩, ⟨some 45, .pu (.fa 4 (.t 44)), none⟩, ⟨none, .ef (.store 1 (.t 45) (.c (.b true))), none⟩, ⟨some 46, .pu (.ia 7 (.t 35) (.t 36)), none⟩, ⟨some 47, .pu (.fa 5 (.t 46)), none⟩, ⟨none, .ef (.store 1 (.t 47) (.t 42)), none⟩, ⟨some 48, .pu (.ia 7 (.t 40) (.t 41)), none⟩, ⟨some 49, .pu (.fa 6 (.t 48)), none⟩, ⟨none, .ef (.store 1 (.t 49) (.t 43)), none⟩] []) .skip)
def o123_2 : List IOp := [⟨some 26, .pu (.pick (.t 16) (.t 25) (.c (.b false))), none⟩] ++ []
def o123_3 : List IOp := [⟨some 17, .pu (.mov (.t 0)), some (16, true)⟩, ⟨some 18, .pu (.nilc (.t 17)), some (16, true)⟩, ⟨some 19, .pu (.fa 1 (.t 18)), some (16, true)⟩, ⟨some 20, .ld false 1 (.t 19), some (16, true)⟩, ⟨some 21, .pu (.mov (.t 8)), some (16, true)⟩, ⟨some 22, .pu (.ia 7 (.t 20) (.t 21)), some (16, true)⟩, ⟨some 23, .pu (.fa 4 (.t 22)), some (16, true)⟩, ⟨some 24, .ld false 1 (.t 23), some (16, true)⟩, ⟨some 25, .pu (.un .not (.t 24)), some (16, true)⟩] ++ o123_2
def o123_4 : List IOp := [⟨some 14, .pu (.mov (.t 8)), none⟩, ⟨some 15, .pu (.bin .geq (.t 14) (.c (.i .i64 0))), none⟩, ⟨some 16, .pu (.mov (.t 15)), none⟩] ++ o123_3
def c123 : IC := (.seq (.region [⟨some 5, .al (.box (.t 1)), none⟩]) (.seq (.seq (.region [⟨some 9, .pu (.mov (.t 0)), none⟩, ⟨some 10, .pu (.eqz false .p (.t 9) (.c (.p none))), none⟩]) (.cond (.t 10) .ret .skip)) (.seq (.region [⟨some 11, .pu (.mov (.t 0)), none⟩, ⟨some 12, .ld true 11 (.t 5), none⟩, ⟨some 13, .ef (.call 152 [(.t 11), (.t 12)]), none⟩, ⟨some 8, .pu (.mov (.t 13)), none⟩]) (.seq (.region o123_4) c123_1))))
def ir123 : IFn := { ntmps := 50, results := rs123, body := c123 }
/-! (cableway/field.Field).Get -/
def rs124 : List RV := [(.t 4)]
def c124 : IC := (.seq (.region [⟨some 2, .al (.box (.t 0)), none⟩, ⟨some 4, .pu (.mov (.c (.i .u64 0))), none⟩]) (.seq (.seq (.region [⟨some 5, .ld true 2 (.t 2), none⟩, ⟨some 6, .ef (.call 149 [(.t 5)]), none⟩, ⟨some 7, .pu (.un .not (.t 6)), none⟩]) (.cond (.t 7) (.seq (.region [⟨some 4, .pu (.mov (.c (.i .u64 0))), none⟩]) .ret) .skip)) (.seq (.draw [⟨some 8, .pu (.mov (.t 1)), none⟩, ⟨some 9, .pu (.fa 0 (.t 2)), none⟩, ⟨some 10, .ld false 1 (.t 9), none⟩, ⟨some 11, .pu (.bin .shr (.t 8) (.t 10)), none⟩, ⟨some 12, .ld true 2 (.t 2), none⟩, ⟨some 13, .ef (.call 151 [(.t 12)]), none⟩, ⟨some 14, .pu (.bin .and (.t 11) (.t 13)), none⟩, ⟨some 4, .pu (.mov (.t 14)), none⟩] [(2, 5)]) .ret)))
def ir124 : IFn := { ntmps := 15, results := rs124, body := c124 }
/-! cableway/field.Rest -/
def rs125 : List RV := [(.t 4)]
def c125_1 : IC := (.seq (.region [⟨some 18, .pu (.mov (.t 0)), none⟩, ⟨some 4, .pu (.mov (.t 18)), none⟩]) .ret)
def c125_2 : IC := (.seq (.region [⟨some 10, .pu (.bin .lss (.t 9) (.t 8)), none⟩]) (.seq (.cond (.t 10) .skip (.exit 0)) (.seq (.block 1 (.seq (.region [⟨some 11, .pu (.ia 2 (.t 7) (.t 9)), none⟩, ⟨some 12, .ld true 2 (.t 11), none⟩, ⟨some 6, .al (.zero [(.i .i64 0), (.i .i64 0)]), none⟩, ⟨none, .ef (.store 2 (.t 6) (.t 12)), none⟩]) (.region [⟨some 13, .pu (.mov (.t 0)), none⟩, ⟨some 14, .ld true 2 (.t 6), none⟩, ⟨some 15, .ef (.call 150 [(.t 14)]), none⟩, ⟨some 16, .pu (.bin .andNot (.t 13) (.t 15)), none⟩, ⟨some 0, .pu (.mov (.t 16)), none⟩]))) (.region [⟨some 17, .pu (.bin .add (.t 9) (.c (.i .i64 1))), none⟩, ⟨some 9, .pu (.mov (.t 17)), none⟩]))))
def c125 : IC := (.seq (.region [⟨some 4, .pu (.mov (.c (.i .u64 0))), none⟩]) (.seq (.seq (.region [⟨some 7, .pu (.mov (.t 1)), none⟩, ⟨some 8, .pu (.lens (.t 7)), none⟩, ⟨some 9, .pu (.mov (.c (.i .i64 0))), none⟩]) (.block 0 (.loop c125_2))) c125_1))
def ir125 : IFn := { ntmps := 19, results := rs125, body := c125 }
/-! (*cableway/server.Server).Next -/
def rs126 : List RV := [(.c 4 true 11), (.t 5)]
def c126_1 : IC := (.seq (.region [⟨some 24, .pu (.mov (.t 0)), none⟩, ⟨some 25, .pu (.mov (.t 1)), none⟩, ⟨some 26, .pu (.nilc (.t 24)), none⟩, ⟨some 27, .pu (.fa 7 (.t 26)), none⟩, ⟨some 28, .pu (.iaa 1 4 (.t 27) (.t 25)), none⟩, ⟨some 29, .ld false 1 (.t 28), none⟩, ⟨some 30, .pu (.ia 11 (.t 29) (.c (.i .i64 0))), none⟩, ⟨some 31, .ld true 11 (.t 30), none⟩, ⟨none, .ef (.store 11 (.t 4) (.t 31)), none⟩, ⟨some 5, .pu (.mov (.c (.b true))), none⟩]) .ret)
def c126_2 : IC := (.cond (.t 22) (.seq (.region [⟨some 23, .pu (.bld [(.i .i64 0), (.i .i64 0), (.i .i64 0), (.i .i64 0), (.i .i64 0), (.i .u32 0), (.i .i64 0), (.b false), (.b false), (.i .i64 0), (.i .u32 0)] []), none⟩, ⟨none, .ef (.store 11 (.t 4) (.t 23)), none⟩, ⟨some 5, .pu (.mov (.c (.b false))), none⟩]) .ret) .skip)
def o126_3 : List IOp := [⟨some 22, .pu (.pick (.t 13) (.c (.b true)) (.t 21)), none⟩] ++ []
def o126_4 : List IOp := [⟨some 14, .pu (.mov (.t 0)), some (13, false)⟩, ⟨some 15, .pu (.mov (.t 1)), some (13, false)⟩, ⟨some 16, .pu (.nilc (.t 14)), some (13, false)⟩, ⟨some 17, .pu (.fa 7 (.t 16)), some (13, false)⟩, ⟨some 18, .pu (.iaa 1 4 (.t 17) (.t 15)), some (13, false)⟩, ⟨some 19, .ld false 1 (.t 18), some (13, false)⟩, ⟨some 20, .pu (.lens (.t 19)), some (13, false)⟩, ⟨some 21, .pu (.bin .eql (.t 20) (.c (.i .i64 0))), some (13, false)⟩] ++ o126_3
def o126_5 : List IOp := [⟨some 12, .pu (.pick (.t 8) (.c (.b true)) (.t 11)), none⟩, ⟨some 13, .pu (.mov (.t 12)), none⟩] ++ o126_4
def o126_6 : List IOp := [⟨some 9, .pu (.mov (.t 1)), some (8, false)⟩, ⟨some 10, .ef (.call 65 [(.t 9)]), some (8, false)⟩, ⟨some 11, .pu (.un .not (.t 10)), some (8, false)⟩] ++ o126_5
def o126_7 : List IOp := [⟨some 6, .pu (.mov (.t 0)), none⟩, ⟨some 7, .pu (.eqz false .p (.t 6) (.c (.p none))), none⟩, ⟨some 8, .pu (.mov (.t 7)), none⟩] ++ o126_6
def c126 : IC := (.seq (.region [⟨some 4, .al (.zero [(.i .i64 0), (.i .i64 0), (.i .i64 0), (.i .i64 0), (.i .i64 0), (.i .u32 0), (.i .i64 0), (.b false), (.b false), (.i .i64 0), (.i .u32 0)]), none⟩, ⟨some 5, .pu (.mov (.c (.b false))), none⟩]) (.seq (.seq (.region o126_7) c126_2) c126_1))
def ir126 : IFn := { ntmps := 32, results := rs126, body := c126 }
/-! (*cableway/server.Server).Handle -/
def rs127 : List RV := []
def c127_2 : IC := (.seq (.region [⟨some 31, .pu (.bin .lss (.t 30) (.t 29)), none⟩]) (.seq (.cond (.t 31) .skip (.exit 1)) (.seq (.block 2 (.seq (.region [⟨some 32, .pu (.ia 1 (.t 28) (.t 30)), none⟩, ⟨some 33, .ld false 1 (.t 32), none⟩, ⟨some 5, .pu (.mov (.t 33)), none⟩]) (.region [⟨some 34, .pu (.mov (.t 5)), none⟩, ⟨some 35, .ld true 11 (.t 3), none⟩, ⟨some 36, .ef (.call 154 [(.t 34), (.t 35)]), none⟩]))) (.region [⟨some 37, .pu (.bin .add (.t 30) (.c (.i .i64 1))), none⟩, ⟨some 30, .pu (.mov (.t 37)), none⟩]))))
def c127_3 : IC := (.seq (.region [⟨some 46, .pu (.bin .lss (.t 45) (.t 44)), none⟩]) (.seq (.cond (.t 46) .skip (.exit 3)) (.seq (.block 4 (.seq (.region [⟨some 47, .pu (.ia 1 (.t 43) (.t 45)), none⟩, ⟨some 48, .ld false 1 (.t 47), none⟩, ⟨some 7, .pu (.mov (.t 48)), none⟩]) (.region [⟨some 49, .pu (.mov (.t 7)), none⟩, ⟨some 50, .ld true 11 (.t 3), none⟩, ⟨some 51, .ef (.call 155 [(.t 49), (.t 50)]), none⟩]))) (.region [⟨some 52, .pu (.bin .add (.t 45) (.c (.i .i64 1))), none⟩, ⟨some 45, .pu (.mov (.t 52)), none⟩]))))
def c127_1 : IC := (.seq (.region [⟨some 16, .pu (.fa 0 (.t 3)), none⟩, ⟨some 17, .ld false 1 (.t 16), none⟩]) (.block 0 (.seq (.region [⟨some 19, .pu (.bin .eql (.t 17) (.c (.i .i64 1))), none⟩, ⟨some 18, .pu (.mov (.t 19)), none⟩]) (.cond (.t 18) (.region [⟨some 20, .pu (.mov (.t 0)), none⟩, ⟨some 21, .ld true 11 (.t 3), none⟩, ⟨some 22, .ef (.call 153 [(.t 20), (.t 21)]), none⟩]) (.seq (.region [⟨some 24, .pu (.bin .eql (.t 17) (.c (.i .i64 5))), none⟩, ⟨some 23, .pu (.mov (.t 24)), none⟩]) (.cond (.t 23) (.seq (.region [⟨some 25, .pu (.mov (.t 0)), none⟩, ⟨some 26, .pu (.nilc (.t 25)), none⟩, ⟨some 27, .pu (.fa 4 (.t 26)), none⟩, ⟨some 28, .ld false 1 (.t 27), none⟩, ⟨some 29, .pu (.lens (.t 28)), none⟩, ⟨some 30, .pu (.mov (.c (.i .i64 0))), none⟩]) (.block 1 (.loop c127_2))) (.seq (.region [⟨some 39, .pu (.bin .eql (.t 17) (.c (.i .i64 6))), none⟩, ⟨some 38, .pu (.mov (.t 39)), none⟩]) (.cond (.t 38) (.seq (.region [⟨some 40, .pu (.mov (.t 0)), none⟩, ⟨some 41, .pu (.nilc (.t 40)), none⟩, ⟨some 42, .pu (.fa 4 (.t 41)), none⟩, ⟨some 43, .ld false 1 (.t 42), none⟩, ⟨some 44, .pu (.lens (.t 43)), none⟩, ⟨some 45, .pu (.mov (.c (.i .i64 0))), none⟩]) (.block 3 (.loop c127_3))) (.seq (.region [⟨some 54, .pu (.bin .eql (.t 17) (.c (.i .i64 8))), none⟩, ⟨some 53, .pu (.mov (.t 54)), none⟩]) (.cond (.t 53) (.draw [⟨some 55, .pu (.mov (.t 0)), none⟩, ⟨some 56, .pu (.nilc (.t 55)), none⟩, ⟨some 57, .pu (.fa 5 (.t 56)), none⟩, ⟨some 58, .ld false 1 (.t 57), none⟩, ⟨some 59, .ld true 11 (.t 3), none⟩, ⟨some 60, .ef (.call 156 [(.t 58), (.t 59)]), none⟩] []) .skip))))))))))
def c127_4 : IC := (.cond (.t 15) .ret .skip)
def o127_5 : List IOp := [⟨some 15, .pu (.pick (.t 10) (.c (.b true)) (.t 14)), none⟩] ++ []
def o127_6 : List IOp := [⟨some 11, .pu (.fa 1 (.t 3)), some (10, false)⟩, ⟨some 12, .ld false 1 (.t 11), some (10, false)⟩, ⟨some 13, .ef (.call 65 [(.t 12)]), some (10, false)⟩, ⟨some 14, .pu (.un .not (.t 13)), some (10, false)⟩] ++ o127_5
def o127_7 : List IOp := [⟨some 8, .pu (.mov (.t 0)), none⟩, ⟨some 9, .pu (.eqz false .p (.t 8) (.c (.p none))), none⟩, ⟨some 10, .pu (.mov (.t 9)), none⟩] ++ o127_6
def c127 : IC := (.seq (.region [⟨some 3, .al (.box (.t 1)), none⟩]) (.seq (.seq (.region o127_7) c127_4) c127_1))
def ir127 : IFn := { ntmps := 61, results := rs127, body := c127 }
/-! (*cableway/server.Server).Sent -/
def rs128 : List RV := [(.t 4)]
def c128 : IC := (.seq (.region [⟨some 4, .pu (.mov (.c (.b false))), none⟩]) (.seq (.seq (.region [⟨some 8, .pu (.mov (.t 0)), none⟩, ⟨some 9, .pu (.mov (.t 1)), none⟩, ⟨some 10, .ef (.call 126 [(.t 8), (.t 9)]), none⟩, ⟨some 7, .pu (.mov (.t 10)), none⟩, ⟨some 11, .pu (.ext (.t 7) 0), none⟩, ⟨some 12, .pu (.ext (.t 7) 1), none⟩, ⟨some 5, .al (.zero [(.i .i64 0), (.i .i64 0), (.i .i64 0), (.i .i64 0), (.i .i64 0), (.i .u32 0), (.i .i64 0), (.b false), (.b false), (.i .i64 0), (.i .u32 0)]), none⟩, ⟨none, .ef (.store 11 (.t 5) (.t 11)), none⟩, ⟨some 6, .pu (.mov (.t 12)), none⟩]) (.seq (.region [⟨some 13, .pu (.mov (.t 6)), none⟩, ⟨some 14, .pu (.un .not (.t 13)), none⟩]) (.cond (.t 14) (.seq (.region [⟨some 4, .pu (.mov (.c (.b false))), none⟩]) .ret) .skip))) (.seq (.draw [⟨some 15, .pu (.mov (.t 0)), none⟩, ⟨some 16, .pu (.mov (.t 1)), none⟩, ⟨some 17, .pu (.mov (.t 0)), none⟩, ⟨some 18, .pu (.mov (.t 1)), none⟩, ⟨some 19, .pu (.nilc (.t 17)), none⟩, ⟨some 20, .pu (.fa 7 (.t 19)), none⟩, ⟨some 21, .pu (.iaa 1 4 (.t 20) (.t 18)), none⟩, ⟨some 22, .ld false 1 (.t 21), none⟩, ⟨some 23, .pu (.sls 11 (.t 22) (some (.c (.i .i64 1))) none none), none⟩, ⟨some 24, .ef (.call 71 [(.t 23)]), none⟩, ⟨some 25, .pu (.nilc (.t 15)), none⟩, ⟨some 26, .pu (.fa 7 (.t 25)), none⟩, ⟨some 27, .pu (.iaa 1 4 (.t 26) (.t 16)), none⟩, ⟨none, .ef (.store 1 (.t 27) (.t 24)), none⟩] []) (.seq (.region [⟨some 4, .pu (.mov (.c (.b true))), none⟩]) .ret))))
def ir128 : IFn := { ntmps := 28, results := rs128, body := c128 }
/-! (*cableway/arena.Arena).touch -/
def rs129 : List RV := [(.t 4)]
def c129_2 : IC := (.seq (.region [⟨some 4, .pu (.mov (.c (.b true))), none⟩]) .ret)
def c129_1 : IC := (.seq (.seq (.region [⟨some 25, .pu (.mov (.t 0)), none⟩, ⟨some 26, .pu (.nilc (.t 25)), none⟩, ⟨some 27, .pu (.fa 1 (.t 26)), none⟩, ⟨some 28, .ld false 1 (.t 27), none⟩, ⟨some 29, .pu (.mov (.t 1)), none⟩, ⟨some 30, .ef (.call 157 [(.t 28), (.t 29)]), none⟩, ⟨some 31, .pu (.un .not (.t 30)), none⟩]) (.cond (.t 31) (.region [⟨some 32, .pu (.mov (.t 0)), none⟩, ⟨some 33, .pu (.mov (.t 0)), none⟩, ⟨some 34, .pu (.nilc (.t 33)), none⟩, ⟨some 35, .pu (.fa 1 (.t 34)), none⟩, ⟨some 36, .ld false 1 (.t 35), none⟩, ⟨some 37, .pu (.mov (.t 1)), none⟩, ⟨some 38, .al (.sl 1 [(.i .i64 0)] [(0, 1, (.t 37))]), none⟩, ⟨some 39, .ef (.app 1 8 (.t 36) (.t 38)), none⟩, ⟨some 40, .pu (.nilc (.t 32)), none⟩, ⟨some 41, .pu (.fa 1 (.t 40)), none⟩, ⟨none, .ef (.store 1 (.t 41) (.t 39)), none⟩]) .skip)) c129_2)
def c129_3 : IC := (.cond (.t 17) (.seq (.region [⟨some 18, .pu (.mov (.t 0)), none⟩, ⟨some 19, .pu (.nilc (.t 18)), none⟩, ⟨some 20, .pu (.fa 2 (.t 19)), none⟩, ⟨some 21, .ld false 1 (.t 20), none⟩, ⟨some 22, .pu (.bin .add (.t 21) (.c (.i .i64 1))), none⟩, ⟨some 23, .pu (.nilc (.t 18)), none⟩, ⟨some 24, .pu (.fa 2 (.t 23)), none⟩, ⟨none, .ef (.store 1 (.t 24) (.t 22)), none⟩]) (.seq (.region [⟨some 4, .pu (.mov (.c (.b false))), none⟩]) .ret)) .skip)
def o129_4 : List IOp := [⟨some 17, .pu (.pick (.t 9) (.c (.b true)) (.t 16)), none⟩] ++ []
def o129_5 : List IOp := [⟨some 10, .pu (.mov (.t 1)), some (9, false)⟩, ⟨some 11, .pu (.mov (.t 0)), some (9, false)⟩, ⟨some 12, .pu (.nilc (.t 11)), some (9, false)⟩, ⟨some 13, .pu (.fa 0 (.t 12)), some (9, false)⟩, ⟨some 14, .ld false 1 (.t 13), some (9, false)⟩, ⟨some 15, .pu (.lens (.t 14)), some (9, false)⟩, ⟨some 16, .pu (.bin .geq (.t 10) (.t 15)), some (9, false)⟩] ++ o129_4
def o129_6 : List IOp := [⟨some 7, .pu (.mov (.t 1)), none⟩, ⟨some 8, .pu (.bin .lss (.t 7) (.c (.i .i64 0))), none⟩, ⟨some 9, .pu (.mov (.t 8)), none⟩] ++ o129_5
def c129 : IC := (.seq (.region [⟨some 4, .pu (.mov (.c (.b false))), none⟩]) (.seq (.seq (.region [⟨some 5, .pu (.mov (.t 0)), none⟩, ⟨some 6, .pu (.eqz false .p (.t 5) (.c (.p none))), none⟩]) (.cond (.t 6) (.seq (.region [⟨some 4, .pu (.mov (.c (.b false))), none⟩]) .ret) .skip)) (.seq (.seq (.region o129_6) c129_3) c129_1)))
def ir129 : IFn := { ntmps := 42, results := rs129, body := c129 }
/-! cableway/frame.within -/
def rs148 : List RV := [(.t 4)]
def o148_1 : List IOp := [⟨some 11, .pu (.pick (.t 7) (.t 10) (.c (.b false))), none⟩, ⟨some 4, .pu (.mov (.t 11)), none⟩] ++ []
def o148_2 : List IOp := [⟨some 8, .pu (.mov (.t 0)), some (7, true)⟩, ⟨some 9, .pu (.mov (.t 1)), some (7, true)⟩, ⟨some 10, .pu (.bin .leq (.t 8) (.t 9)), some (7, true)⟩] ++ o148_1
def o148_3 : List IOp := [⟨some 5, .pu (.mov (.t 0)), none⟩, ⟨some 6, .pu (.bin .geq (.t 5) (.c (.i .i64 0))), none⟩, ⟨some 7, .pu (.mov (.t 6)), none⟩] ++ o148_2
def c148 : IC := (.seq (.region [⟨some 4, .pu (.mov (.c (.b false))), none⟩]) (.seq (.region o148_3) .ret))
def ir148 : IFn := { ntmps := 12, results := rs148, body := c148 }
/-! (cableway/field.Field).May -/
def rs149 : List RV := [(.t 2)]
def o149_1 : List IOp := [⟨some 23, .pu (.pick (.t 16) (.t 22) (.c (.b false))), none⟩, ⟨some 2, .pu (.mov (.t 23)), none⟩] ++ []
def o149_2 : List IOp := [⟨some 17, .pu (.fa 1 (.t 1)), some (16, true)⟩, ⟨some 18, .ld false 1 (.t 17), some (16, true)⟩, ⟨some 19, .pu (.fa 0 (.t 1)), some (16, true)⟩, ⟨some 20, .ld false 1 (.t 19), some (16, true)⟩, ⟨some 21, .pu (.bin .sub (.c (.i .i64 64)) (.t 20)), some (16, true)⟩, ⟨some 22, .pu (.bin .leq (.t 18) (.t 21)), some (16, true)⟩] ++ o149_1
def o149_3 : List IOp := [⟨some 15, .pu (.pick (.t 11) (.t 14) (.c (.b false))), none⟩, ⟨some 16, .pu (.mov (.t 15)), none⟩] ++ o149_2
def o149_4 : List IOp := [⟨some 12, .pu (.fa 0 (.t 1)), some (11, true)⟩, ⟨some 13, .ld false 1 (.t 12), some (11, true)⟩, ⟨some 14, .pu (.bin .lss (.t 13) (.c (.i .i64 64))), some (11, true)⟩] ++ o149_3
def o149_5 : List IOp := [⟨some 10, .pu (.pick (.t 6) (.t 9) (.c (.b false))), none⟩, ⟨some 11, .pu (.mov (.t 10)), none⟩] ++ o149_4
def o149_6 : List IOp := [⟨some 7, .pu (.fa 1 (.t 1)), some (6, true)⟩, ⟨some 8, .ld false 1 (.t 7), some (6, true)⟩, ⟨some 9, .pu (.bin .geq (.t 8) (.c (.i .i64 1))), some (6, true)⟩] ++ o149_5
def o149_7 : List IOp := [⟨some 3, .pu (.fa 0 (.t 1)), none⟩, ⟨some 4, .ld false 1 (.t 3), none⟩, ⟨some 5, .pu (.bin .geq (.t 4) (.c (.i .i64 0))), none⟩, ⟨some 6, .pu (.mov (.t 5)), none⟩] ++ o149_6
def c149 : IC := (.seq (.region [⟨some 1, .al (.box (.t 0)), none⟩, ⟨some 2, .pu (.mov (.c (.b false))), none⟩]) (.seq (.region o149_7) .ret))
def ir149 : IFn := { ntmps := 24, results := rs149, body := c149 }
/-! (cableway/field.Field).mask -/
def rs150 : List RV := [(.t 2)]
def c150 : IC := (.seq (.region [⟨some 1, .al (.box (.t 0)), none⟩, ⟨some 2, .pu (.mov (.c (.i .u64 0))), none⟩]) (.seq (.seq (.region [⟨some 3, .ld true 2 (.t 1), none⟩, ⟨some 4, .ef (.call 149 [(.t 3)]), none⟩, ⟨some 5, .pu (.un .not (.t 4)), none⟩]) (.cond (.t 5) (.seq (.region [⟨some 2, .pu (.mov (.c (.i .u64 0))), none⟩]) .ret) .skip)) (.seq (.draw [⟨some 6, .ld true 2 (.t 1), none⟩, ⟨some 7, .ef (.call 151 [(.t 6)]), none⟩, ⟨some 8, .pu (.fa 0 (.t 1)), none⟩, ⟨some 9, .ld false 1 (.t 8), none⟩, ⟨some 10, .pu (.bin .shl (.t 7) (.t 9)), none⟩, ⟨some 2, .pu (.mov (.t 10)), none⟩] [(3, 1)]) .ret)))
def ir150 : IFn := { ntmps := 11, results := rs150, body := c150 }
/-! (cableway/field.Field).Most -/
def rs151 : List RV := [(.t 2)]
def c151 : IC := (.seq (.region [⟨some 1, .al (.box (.t 0)), none⟩, ⟨some 2, .pu (.mov (.c (.i .u64 0))), none⟩]) (.seq (.seq (.region [⟨some 3, .ld true 2 (.t 1), none⟩, ⟨some 4, .ef (.call 149 [(.t 3)]), none⟩, ⟨some 5, .pu (.un .not (.t 4)), none⟩]) (.cond (.t 5) (.seq (.region [⟨some 2, .pu (.mov (.c (.i .u64 0))), none⟩]) .ret) .skip)) (.seq (.region [⟨some 6, .pu (.fa 1 (.t 1)), none⟩, ⟨some 7, .ld false 1 (.t 6), none⟩, ⟨some 8, .pu (.bin .sub (.c (.i .i64 64)) (.t 7)), none⟩, ⟨some 9, .pu (.bin .shr (.c (.i .u64 18446744073709551615)) (.t 8)), none⟩, ⟨some 2, .pu (.mov (.t 9)), none⟩]) .ret)))
def ir151 : IFn := { ntmps := 10, results := rs151, body := c151 }
/-! (*cableway/dedup.Cache).find -/
def rs152 : List RV := [(.t 4)]
def c152 : IC := (.seq (.region [⟨some 3, .al (.box (.t 1)), none⟩, ⟨some 4, .pu (.mov (.c (.i .i64 0))), none⟩]) (.seq (.region [⟨some 5, .pu (.mov (.t 0)), none⟩, ⟨some 6, .pu (.nilc (.t 5)), none⟩, ⟨some 7, .pu (.fa 1 (.t 6)), none⟩, ⟨some 8, .ld false 1 (.t 7), none⟩, ⟨some 9, .pu (.mkf 194 [(.t 3)]), none⟩, ⟨some 10, .ef (.call 193 [(.t 8), (.t 9)]), none⟩, ⟨some 4, .pu (.mov (.t 10)), none⟩]) .ret))
def ir152 : IFn := { ntmps := 11, results := rs152, body := c152 }
/-! (*cableway/server.Server).request -/
def rs153 : List RV := []
def c153_3 : IC := (.cond (.t 76) (.region [⟨some 77, .pu (.mov (.t 0)), none⟩, ⟨some 78, .ld true 11 (.t 3), none⟩, ⟨some 79, .pu (.mov (.t 7)), none⟩, ⟨some 80, .ef (.call 198 [(.t 78), (.c (.i .i64 2)), (.t 79)]), none⟩, ⟨some 81, .ef (.call 70 [(.t 77), (.t 80)]), none⟩]) (.region [⟨some 82, .pu (.mov (.t 0)), none⟩, ⟨some 83, .ld true 11 (.t 3), none⟩, ⟨some 84, .ef (.call 198 [(.t 83), (.c (.i .i64 7)), (.c (.i .u32 1))]), none⟩, ⟨some 85, .ef (.call 70 [(.t 82), (.t 84)]), none⟩]))
def o153_4 : List IOp := [⟨some 76, .pu (.pick (.t 74) (.t 75) (.c (.b false))), none⟩] ++ []
def o153_5 : List IOp := [⟨some 75, .pu (.mov (.t 8)), some (74, true)⟩] ++ o153_4
def o153_6 : List IOp := [⟨some 73, .pu (.mov (.t 9)), none⟩, ⟨some 74, .pu (.mov (.t 73)), none⟩] ++ o153_5
def c153_2 : IC := (.seq (.draw [⟨some 44, .pu (.mov (.t 0)), none⟩, ⟨some 45, .pu (.nilc (.t 44)), none⟩, ⟨some 46, .pu (.fa 5 (.t 45)), none⟩, ⟨some 47, .ld false 1 (.t 46), none⟩, ⟨some 48, .ld true 11 (.t 3), none⟩, ⟨some 49, .ef (.call 199 [(.t 47), (.t 48)]), none⟩] []) (.block 0 (.seq (.region [⟨some 51, .pu (.bin .eql (.t 49) (.c (.i .i64 0))), none⟩, ⟨some 50, .pu (.mov (.t 51)), none⟩]) (.cond (.t 50) (.draw [⟨some 52, .pu (.mov (.t 0)), none⟩, ⟨some 53, .pu (.nilc (.t 52)), none⟩, ⟨some 54, .pu (.fa 4 (.t 53)), none⟩, ⟨some 55, .ld false 1 (.t 54), none⟩, ⟨some 56, .pu (.mov (.t 6)), none⟩, ⟨some 57, .pu (.ia 1 (.t 55) (.t 56)), none⟩, ⟨some 58, .ld false 1 (.t 57), none⟩, ⟨some 59, .ld true 11 (.t 3), none⟩, ⟨some 60, .ef (.call 200 [(.t 58), (.t 59)]), none⟩] []) (.seq (.region [⟨some 62, .pu (.bin .eql (.t 49) (.c (.i .i64 3))), none⟩, ⟨some 61, .pu (.mov (.t 62)), none⟩]) (.cond (.t 61) (.seq (.draw [⟨some 64, .pu (.mov (.t 0)), none⟩, ⟨some 65, .pu (.nilc (.t 64)), none⟩, ⟨some 66, .pu (.fa 5 (.t 65)), none⟩, ⟨some 67, .ld false 1 (.t 66), none⟩, ⟨some 68, .ld true 11 (.t 3), none⟩, ⟨some 69, .ef (.call 201 [(.t 67), (.t 68)]), none⟩, ⟨some 63, .pu (.mov (.t 69)), none⟩, ⟨some 70, .pu (.ext (.t 63) 0), none⟩, ⟨some 71, .pu (.ext (.t 63) 1), none⟩, ⟨some 72, .pu (.ext (.t 63) 2), none⟩, ⟨some 7, .pu (.mov (.t 70)), none⟩, ⟨some 8, .pu (.mov (.t 71)), none⟩, ⟨some 9, .pu (.mov (.t 72)), none⟩] []) (.seq (.region o153_6) c153_3)) (.seq (.region [⟨some 87, .pu (.bin .eql (.t 49) (.c (.i .i64 4))), none⟩, ⟨some 86, .pu (.mov (.t 87)), none⟩]) (.cond (.t 86) (.region [⟨some 88, .pu (.mov (.t 0)), none⟩, ⟨some 89, .ld true 11 (.t 3), none⟩, ⟨some 90, .ef (.call 198 [(.t 89), (.c (.i .i64 7)), (.c (.i .u32 3))]), none⟩, ⟨some 91, .ef (.call 70 [(.t 88), (.t 90)]), none⟩]) .skip))))))))
def c153_8 : IC := (.cond (.t 39) (.seq (.region [⟨some 40, .pu (.mov (.t 0)), none⟩, ⟨some 41, .ld true 11 (.t 3), none⟩, ⟨some 42, .ef (.call 198 [(.t 41), (.c (.i .i64 7)), (.c (.i .u32 3))]), none⟩, ⟨some 43, .ef (.call 70 [(.t 40), (.t 42)]), none⟩]) .ret) .skip)
def o153_9 : List IOp := [⟨some 39, .pu (.pick (.t 35) (.t 38) (.c (.b false))), none⟩] ++ []
def o153_10 : List IOp := [⟨some 36, .pu (.fa 7 (.t 3)), some (35, true)⟩, ⟨some 37, .ld false 1 (.t 36), some (35, true)⟩, ⟨some 38, .pu (.un .not (.t 37)), some (35, true)⟩] ++ o153_9
def o153_11 : List IOp := [⟨some 33, .pu (.mov (.t 6)), none⟩, ⟨some 34, .pu (.bin .lss (.t 33) (.c (.i .i64 0))), none⟩, ⟨some 35, .pu (.mov (.t 34)), none⟩] ++ o153_10
def c153_1 : IC := (.seq (.seq (.region o153_11) c153_8) c153_2)
def c153_13 : IC := (.cond (.t 28) (.seq (.region [⟨some 29, .pu (.mov (.t 0)), none⟩, ⟨some 30, .ld true 11 (.t 3), none⟩, ⟨some 31, .ef (.call 198 [(.t 30), (.c (.i .i64 7)), (.c (.i .u32 3))]), none⟩, ⟨some 32, .ef (.call 70 [(.t 29), (.t 31)]), none⟩]) .ret) .skip)
def o153_14 : List IOp := [⟨some 28, .pu (.pick (.t 20) (.t 27) (.c (.b false))), none⟩] ++ []
def o153_15 : List IOp := [⟨some 21, .pu (.mov (.t 0)), some (20, true)⟩, ⟨some 22, .pu (.nilc (.t 21)), some (20, true)⟩, ⟨some 23, .pu (.fa 5 (.t 22)), some (20, true)⟩, ⟨some 24, .ld false 1 (.t 23), some (20, true)⟩, ⟨some 25, .ld true 11 (.t 3), some (20, true)⟩, ⟨some 26, .ef (.call 197 [(.t 24), (.t 25)]), some (20, true)⟩, ⟨some 27, .pu (.bin .eql (.t 26) (.c (.i .i64 0))), some (20, true)⟩] ++ o153_14
def o153_16 : List IOp := [⟨some 18, .pu (.mov (.t 6)), none⟩, ⟨some 19, .pu (.bin .lss (.t 18) (.c (.i .i64 0))), none⟩, ⟨some 20, .pu (.mov (.t 19)), none⟩] ++ o153_15
def c153 : IC := (.seq (.region [⟨some 3, .al (.box (.t 1)), none⟩]) (.seq (.region [⟨some 11, .pu (.mov (.t 0)), none⟩, ⟨some 12, .ef (.call 195 [(.t 11)]), none⟩, ⟨some 10, .pu (.mov (.t 12)), none⟩, ⟨some 13, .pu (.ext (.t 10) 0), none⟩, ⟨some 14, .pu (.ext (.t 10) 1), none⟩, ⟨some 4, .pu (.mov (.t 13)), none⟩, ⟨some 5, .pu (.mov (.t 14)), none⟩]) (.seq (.region [⟨some 15, .pu (.mov (.t 4)), none⟩, ⟨some 16, .pu (.mov (.t 5)), none⟩, ⟨some 17, .ef (.call 196 [(.t 15), (.t 16)]), none⟩, ⟨some 6, .pu (.mov (.t 17)), none⟩]) (.seq (.seq (.draw o153_16 []) c153_13) c153_1))))
def ir153 : IFn := { ntmps := 92, results := rs153, body := c153 }
/-! slices.Contains[[]int,int] -/
def rs157 : List RV := [(.t 4)]
def c157 : IC := (.seq (.region [⟨some 4, .pu (.mov (.c (.b false))), none⟩]) (.seq (.region [⟨some 5, .pu (.mov (.t 0)), none⟩, ⟨some 6, .pu (.mov (.t 1)), none⟩, ⟨some 7, .ef (.call 207 [(.t 5), (.t 6)]), none⟩, ⟨some 8, .pu (.bin .geq (.t 7) (.c (.i .i64 0))), none⟩, ⟨some 4, .pu (.mov (.t 8)), none⟩]) .ret))
def ir157 : IFn := { ntmps := 9, results := rs157, body := c157 }
/-! slices.IndexFunc[[]cableway/dedup.entry,cableway/dedup.entry] -/
def rs193 : List RV := [(.t 4)]
def c193_1 : IC := (.seq (.region [⟨some 4, .pu (.mov (.c (.i .i64 (-1)))), none⟩]) .ret)
def c193_2 : IC := (.seq (.region [⟨some 9, .pu (.bin .lss (.t 8) (.t 7)), none⟩]) (.seq (.cond (.t 9) .skip (.exit 0)) (.seq (.block 1 (.seq (.region [⟨some 10, .pu (.mov (.t 8)), none⟩, ⟨some 5, .pu (.mov (.t 10)), none⟩]) (.seq (.region [⟨some 11, .pu (.mov (.t 1)), none⟩, ⟨some 12, .pu (.mov (.t 0)), none⟩, ⟨some 13, .pu (.mov (.t 5)), none⟩, ⟨some 14, .pu (.ia 7 (.t 12) (.t 13)), none⟩, ⟨some 15, .ld true 7 (.t 14), none⟩, ⟨some 16, .ef (.callv (.t 11) [(.t 15)]), none⟩]) (.cond (.t 16) (.seq (.region [⟨some 17, .pu (.mov (.t 5)), none⟩, ⟨some 4, .pu (.mov (.t 17)), none⟩]) .ret) .skip)))) (.region [⟨some 18, .pu (.bin .add (.t 8) (.c (.i .i64 1))), none⟩, ⟨some 8, .pu (.mov (.t 18)), none⟩]))))
def c193 : IC := (.seq (.region [⟨some 4, .pu (.mov (.c (.i .i64 0))), none⟩]) (.seq (.seq (.region [⟨some 6, .pu (.mov (.t 0)), none⟩, ⟨some 7, .pu (.lens (.t 6)), none⟩, ⟨some 8, .pu (.mov (.c (.i .i64 0))), none⟩]) (.block 0 (.loop c193_2))) c193_1))
def ir193 : IFn := { ntmps := 19, results := rs193, body := c193 }
/-! (*cableway/dedup.Cache).find$1 -/
def rs194 : List RV := [(.t 3)]
def c194 : IC := (.seq (.region [⟨some 2, .al (.box (.t 0)), none⟩, ⟨some 3, .pu (.mov (.c (.b false))), none⟩]) (.seq (.region [⟨some 4, .pu (.fa 0 (.t 2)), none⟩, ⟨some 5, .ld true 2 (.t 4), none⟩, ⟨some 6, .pu (.fa 1 (.t 1)), none⟩, ⟨some 7, .ld false 1 (.t 6), none⟩, ⟨some 8, .pu (.fa 5 (.t 1)), none⟩, ⟨some 9, .ld false 1 (.t 8), none⟩, ⟨some 10, .pu (.bld [(.i .i64 0), (.i .u32 0)] [(0, 1, (.t 7)), (1, 1, (.t 9))]), none⟩, ⟨some 11, .pu (.eqa false [.i, .i] (.t 5) (.t 10)), none⟩, ⟨some 3, .pu (.mov (.t 11)), none⟩]) .ret))
def ir194 : IFn := { ntmps := 12, results := rs194, body := c194 }
/-! (*cableway/server.Server).loads -/
def rs195 : List RV := [(.t 2), (.t 3)]
def c195_1 : IC := (.seq (.region [⟨some 22, .pu (.mov (.t 4)), none⟩, ⟨some 23, .pu (.mov (.t 0)), none⟩, ⟨some 24, .pu (.nilc (.t 23)), none⟩, ⟨some 25, .pu (.fa 4 (.t 24)), none⟩, ⟨some 26, .ld false 1 (.t 25), none⟩, ⟨some 27, .pu (.ia 1 (.t 26) (.c (.i .i64 0))), none⟩, ⟨some 28, .ld false 1 (.t 27), none⟩, ⟨some 29, .ef (.call 241 [(.t 28)]), none⟩, ⟨some 2, .pu (.mov (.t 22)), none⟩, ⟨some 3, .pu (.mov (.t 29)), none⟩]) .ret)
def c195_2 : IC := (.seq (.region [⟨some 13, .pu (.bin .lss (.t 12) (.t 11)), none⟩]) (.seq (.cond (.t 13) .skip (.exit 0)) (.seq (.block 1 (.seq (.region [⟨some 14, .pu (.ia 1 (.t 10) (.t 12)), none⟩, ⟨some 15, .ld false 1 (.t 14), none⟩, ⟨some 6, .pu (.mov (.t 15)), none⟩]) (.region [⟨some 16, .pu (.mov (.t 4)), none⟩, ⟨some 17, .pu (.mov (.t 6)), none⟩, ⟨some 18, .ef (.call 202 [(.t 17)]), none⟩, ⟨some 19, .al (.sl 1 [(.i .i64 0)] [(0, 1, (.t 18))]), none⟩, ⟨some 20, .ef (.app 1 8 (.t 16) (.t 19)), none⟩, ⟨some 4, .pu (.mov (.t 20)), none⟩]))) (.region [⟨some 21, .pu (.bin .add (.t 12) (.c (.i .i64 1))), none⟩, ⟨some 12, .pu (.mov (.t 21)), none⟩]))))
def c195 : IC := (.seq (.region [⟨some 2, .pu (.mov (.c .nsl)), none⟩, ⟨some 3, .pu (.mov (.c (.i .i64 0))), none⟩]) (.seq (.region [⟨some 4, .pu (.mov (.c .nsl)), none⟩]) (.seq (.seq (.region [⟨some 7, .pu (.mov (.t 0)), none⟩, ⟨some 8, .pu (.nilc (.t 7)), none⟩, ⟨some 9, .pu (.fa 4 (.t 8)), none⟩, ⟨some 10, .ld false 1 (.t 9), none⟩, ⟨some 11, .pu (.lens (.t 10)), none⟩, ⟨some 12, .pu (.mov (.c (.i .i64 0))), none⟩]) (.block 0 (.loop c195_2))) c195_1)))
def ir195 : IFn := { ntmps := 30, results := rs195, body := c195 }
/-! cableway/route.Least -/
def rs196 : List RV := [(.t 4)]
def c196_1 : IC := (.seq (.region [⟨some 32, .pu (.mov (.t 5)), none⟩, ⟨some 4, .pu (.mov (.t 32)), none⟩]) .ret)
def c196_3 : IC := (.region [⟨some 31, .pu (.bin .add (.t 10) (.c (.i .i64 1))), none⟩, ⟨some 10, .pu (.mov (.t 31)), none⟩])
def c196_4 : IC := (.cond (.t 29) (.region [⟨some 30, .pu (.mov (.t 6)), none⟩, ⟨some 5, .pu (.mov (.t 30)), none⟩]) .skip)
def o196_5 : List IOp := [⟨some 29, .pu (.pick (.t 18) (.t 28) (.c (.b false))), none⟩] ++ []
def o196_6 : List IOp := [⟨some 28, .pu (.pick (.t 21) (.c (.b true)) (.t 27)), some (18, true)⟩] ++ o196_5
def o196_7 : List IOp := [⟨some 22, .pu (.mov (.t 7)), some (21, false)⟩, ⟨some 23, .pu (.mov (.t 0)), some (21, false)⟩, ⟨some 24, .pu (.mov (.t 5)), some (21, false)⟩, ⟨some 25, .pu (.ia 1 (.t 23) (.t 24)), some (21, false)⟩, ⟨some 26, .ld false 1 (.t 25), some (21, false)⟩, ⟨some 27, .pu (.bin .lss (.t 22) (.t 26)), some (21, false)⟩] ++ o196_6
def o196_8 : List IOp := [⟨some 19, .pu (.mov (.t 5)), some (18, true)⟩, ⟨some 20, .pu (.bin .lss (.t 19) (.c (.i .i64 0))), some (18, true)⟩, ⟨some 21, .pu (.mov (.t 20)), some (18, true)⟩] ++ o196_7
def o196_9 : List IOp := [⟨some 15, .pu (.mov (.t 7)), none⟩, ⟨some 16, .pu (.mov (.t 1)), none⟩, ⟨some 17, .pu (.bin .lss (.t 15) (.t 16)), none⟩, ⟨some 18, .pu (.mov (.t 17)), none⟩] ++ o196_8
def c196_2 : IC := (.seq (.region [⟨some 11, .pu (.bin .lss (.t 10) (.t 9)), none⟩]) (.seq (.cond (.t 11) .skip (.exit 0)) (.seq (.block 1 (.seq (.region [⟨some 12, .pu (.mov (.t 10)), none⟩, ⟨some 13, .pu (.ia 1 (.t 8) (.t 10)), none⟩, ⟨some 14, .ld false 1 (.t 13), none⟩, ⟨some 6, .pu (.mov (.t 12)), none⟩, ⟨some 7, .pu (.mov (.t 14)), none⟩]) (.seq (.region o196_9) c196_4))) c196_3)))
def c196 : IC := (.seq (.region [⟨some 4, .pu (.mov (.c (.i .i64 0))), none⟩]) (.seq (.region [⟨some 5, .pu (.mov (.c (.i .i64 (-1)))), none⟩]) (.seq (.seq (.region [⟨some 8, .pu (.mov (.t 0)), none⟩, ⟨some 9, .pu (.lens (.t 8)), none⟩, ⟨some 10, .pu (.mov (.c (.i .i64 0))), none⟩]) (.block 0 (.loop c196_2))) c196_1)))
def ir196 : IFn := { ntmps := 33, results := rs196, body := c196 }
/-! (*cableway/dedup.Cache).Meet -/
def rs199 : List RV := [(.t 4)]
def c199_1 : IC := (.seq (.region [⟨some 19, .pu (.mov (.t 0)), none⟩, ⟨some 20, .ld true 11 (.t 3), none⟩, ⟨some 21, .ef (.call 152 [(.t 19), (.t 20)]), none⟩, ⟨some 5, .pu (.mov (.t 21)), none⟩]) (.seq (.seq (.region [⟨some 22, .pu (.mov (.t 5)), none⟩, ⟨some 23, .pu (.bin .lss (.t 22) (.c (.i .i64 0))), none⟩]) (.cond (.t 23) (.seq (.seq (.draw [⟨some 24, .pu (.mov (.t 0)), none⟩, ⟨some 25, .pu (.nilc (.t 24)), none⟩, ⟨some 26, .pu (.fa 1 (.t 25)), none⟩, ⟨some 27, .ld false 1 (.t 26), none⟩, ⟨some 28, .pu (.lens (.t 27)), none⟩, ⟨some 29, .pu (.mov (.t 0)), none⟩, ⟨some 30, .pu (.nilc (.t 29)), none⟩, ⟨some 31, .pu (.fa 0 (.t 30)), none⟩, ⟨some 32, .ld false 1 (.t 31), none⟩, ⟨some 33, .pu (.bin .geq (.t 28) (.t 32)), none⟩] []) (.cond (.t 33) (.seq (.region [⟨some 4, .pu (.mov (.c (.i .i64 4))), none⟩]) .ret) .skip)) (.seq (.draw [⟨some 34, .pu (.mov (.t 0)), none⟩, ⟨some 35, .pu (.mov (.t 0)), none⟩, ⟨some 36, .pu (.nilc (.t 35)), none⟩, ⟨some 37, .pu (.fa 1 (.t 36)), none⟩, ⟨some 38, .ld false 1 (.t 37), none⟩, ⟨some 39, .pu (.fa 1 (.t 3)), none⟩, ⟨some 40, .ld false 1 (.t 39), none⟩, ⟨some 41, .pu (.fa 5 (.t 3)), none⟩, ⟨some 42, .ld false 1 (.t 41), none⟩, ⟨some 43, .pu (.bld [(.i .i64 0), (.i .u32 0)] [(0, 1, (.t 40)), (1, 1, (.t 42))]), none⟩, ⟨some 44, .pu (.fa 6 (.t 3)), none⟩, ⟨some 45, .ld false 1 (.t 44), none⟩, ⟨some 46, .pu (.bin .shl (.c (.i .i64 1)) (.t 45)), none⟩, ⟨some 47, .pu (.bld [(.i .i64 0), (.i .u32 0), (.i .i64 0), (.i .i64 0), (.b false), (.b false), (.i .u32 0)] [(0, 2, (.t 43)), (2, 1, (.t 46)), (3, 1, (.c (.i .i64 1)))]), none⟩, ⟨some 48, .al (.sl 1 [(.i .i64 0), (.i .u32 0), (.i .i64 0), (.i .i64 0), (.b false), (.b false), (.i .u32 0)] [(0, 7, (.t 47))]), none⟩, ⟨some 49, .ef (.app 7 40 (.t 38) (.t 48)), none⟩, ⟨some 50, .pu (.nilc (.t 34)), none⟩, ⟨some 51, .pu (.fa 1 (.t 50)), none⟩, ⟨none, .ef (.store 1 (.t 51) (.t 49)), none⟩] []) (.seq (.region [⟨some 4, .pu (.mov (.c (.i .i64 0))), none⟩]) .ret))) .skip)) (.seq (.region [⟨some 52, .pu (.mov (.t 0)), none⟩, ⟨some 53, .pu (.nilc (.t 52)), none⟩, ⟨some 54, .pu (.fa 1 (.t 53)), none⟩, ⟨some 55, .ld false 1 (.t 54), none⟩, ⟨some 56, .pu (.mov (.t 5)), none⟩, ⟨some 57, .pu (.ia 7 (.t 55) (.t 56)), none⟩, ⟨some 6, .pu (.mov (.t 57)), none⟩]) (.seq (.seq (.draw [⟨some 58, .pu (.mov (.t 6)), none⟩, ⟨some 59, .pu (.nilc (.t 58)), none⟩, ⟨some 60, .pu (.fa 2 (.t 59)), none⟩, ⟨some 61, .ld false 1 (.t 60), none⟩, ⟨some 62, .pu (.fa 6 (.t 3)), none⟩, ⟨some 63, .ld false 1 (.t 62), none⟩, ⟨some 64, .pu (.bin .shr (.t 61) (.t 63)), none⟩, ⟨some 65, .pu (.bin .and (.t 64) (.c (.i .i64 1))), none⟩, ⟨some 66, .pu (.bin .eql (.t 65) (.c (.i .i64 1))), none⟩] []) (.cond (.t 66) (.seq (.region [⟨some 4, .pu (.mov (.c (.i .i64 1))), none⟩]) .ret) .skip)) (.seq (.draw [⟨some 67, .pu (.mov (.t 6)), none⟩, ⟨some 68, .pu (.nilc (.t 67)), none⟩, ⟨some 69, .pu (.fa 2 (.t 68)), none⟩, ⟨some 70, .ld false 1 (.t 69), none⟩, ⟨some 71, .pu (.fa 6 (.t 3)), none⟩, ⟨some 72, .ld false 1 (.t 71), none⟩, ⟨some 73, .pu (.bin .shl (.c (.i .i64 1)) (.t 72)), none⟩, ⟨some 74, .pu (.bin .or (.t 70) (.t 73)), none⟩, ⟨some 75, .pu (.nilc (.t 67)), none⟩, ⟨some 76, .pu (.fa 2 (.t 75)), none⟩, ⟨none, .ef (.store 1 (.t 76) (.t 74)), none⟩] []) (.seq (.block 0 (.seq (.region [⟨some 78, .pu (.fa 7 (.t 3)), none⟩, ⟨some 79, .ld false 1 (.t 78), none⟩, ⟨some 80, .pu (.un .not (.t 79)), none⟩, ⟨some 77, .pu (.mov (.t 80)), none⟩]) (.cond (.t 77) (.seq (.region [⟨some 81, .pu (.mov (.t 6)), none⟩, ⟨some 82, .pu (.nilc (.t 81)), none⟩, ⟨some 83, .pu (.fa 3 (.t 82)), none⟩, ⟨some 84, .ld false 1 (.t 83), none⟩, ⟨some 85, .pu (.bin .add (.t 84) (.c (.i .i64 1))), none⟩, ⟨some 86, .pu (.nilc (.t 81)), none⟩, ⟨some 87, .pu (.fa 3 (.t 86)), none⟩, ⟨none, .ef (.store 1 (.t 87) (.t 85)), none⟩]) (.seq (.region [⟨some 4, .pu (.mov (.c (.i .i64 0))), none⟩]) .ret)) (.seq (.region [⟨some 89, .pu (.mov (.t 6)), none⟩, ⟨some 90, .pu (.nilc (.t 89)), none⟩, ⟨some 91, .pu (.fa 4 (.t 90)), none⟩, ⟨some 92, .ld false 1 (.t 91), none⟩, ⟨some 88, .pu (.mov (.t 92)), none⟩]) (.cond (.t 88) (.seq (.region [⟨some 4, .pu (.mov (.c (.i .i64 3))), none⟩]) .ret) .skip))))) (.seq (.region [⟨some 4, .pu (.mov (.c (.i .i64 2))), none⟩]) .ret)))))))
def c199_2 : IC := (.cond (.t 18) (.seq (.region [⟨some 4, .pu (.mov (.c (.i .i64 4))), none⟩]) .ret) .skip)
def o199_3 : List IOp := [⟨some 18, .pu (.pick (.t 14) (.c (.b true)) (.t 17)), none⟩] ++ []
def o199_4 : List IOp := [⟨some 15, .pu (.fa 6 (.t 3)), some (14, false)⟩, ⟨some 16, .ld false 1 (.t 15), some (14, false)⟩, ⟨some 17, .pu (.bin .gtr (.t 16) (.c (.i .i64 15))), some (14, false)⟩] ++ o199_3
def o199_5 : List IOp := [⟨some 13, .pu (.pick (.t 9) (.c (.b true)) (.t 12)), none⟩, ⟨some 14, .pu (.mov (.t 13)), none⟩] ++ o199_4
def o199_6 : List IOp := [⟨some 10, .pu (.fa 6 (.t 3)), some (9, false)⟩, ⟨some 11, .ld false 1 (.t 10), some (9, false)⟩, ⟨some 12, .pu (.bin .lss (.t 11) (.c (.i .i64 0))), some (9, false)⟩] ++ o199_5
def o199_7 : List IOp := [⟨some 7, .pu (.mov (.t 0)), none⟩, ⟨some 8, .pu (.eqz false .p (.t 7) (.c (.p none))), none⟩, ⟨some 9, .pu (.mov (.t 8)), none⟩] ++ o199_6
def c199 : IC := (.seq (.region [⟨some 3, .al (.box (.t 1)), none⟩, ⟨some 4, .pu (.mov (.c (.i .i64 0))), none⟩]) (.seq (.seq (.region o199_7) c199_2) c199_1))
def ir199 : IFn := { ntmps := 93, results := rs199, body := c199 }
/-! (*cableway/worker.Worker).Put -/
def rs200 : List RV := [(.t 4)]
def c200_1 : IC := (.seq (.draw [⟨some 14, .pu (.mov (.t 0)), none⟩, ⟨some 15, .pu (.mov (.t 0)), none⟩, ⟨some 16, .pu (.nilc (.t 15)), none⟩, ⟨some 17, .pu (.fa 1 (.t 16)), none⟩, ⟨some 18, .ld false 1 (.t 17), none⟩, ⟨some 19, .ld true 11 (.t 3), none⟩, ⟨some 20, .al (.sl 1 [(.i .i64 0), (.i .i64 0), (.i .i64 0), (.i .i64 0), (.i .i64 0), (.i .u32 0), (.i .i64 0), (.b false), (.b false), (.i .i64 0), (.i .u32 0)] [(0, 11, (.t 19))]), none⟩, ⟨some 21, .ef (.app 11 80 (.t 18) (.t 20)), none⟩, ⟨some 22, .pu (.nilc (.t 14)), none⟩, ⟨some 23, .pu (.fa 1 (.t 22)), none⟩, ⟨none, .ef (.store 1 (.t 23) (.t 21)), none⟩] []) (.seq (.region [⟨some 4, .pu (.mov (.c (.b true))), none⟩]) .ret))
def c200_2 : IC := (.cond (.t 13) (.seq (.region [⟨some 4, .pu (.mov (.c (.b false))), none⟩]) .ret) .skip)
def o200_3 : List IOp := [⟨some 13, .pu (.pick (.t 7) (.c (.b true)) (.t 12)), none⟩] ++ []
def o200_4 : List IOp := [⟨some 8, .pu (.mov (.t 0)), some (7, false)⟩, ⟨some 9, .ef (.call 202 [(.t 8)]), some (7, false)⟩, ⟨some 10, .pu (.mov (.t 0)), some (7, false)⟩, ⟨some 11, .ef (.call 241 [(.t 10)]), some (7, false)⟩, ⟨some 12, .pu (.bin .geq (.t 9) (.t 11)), some (7, false)⟩] ++ o200_3
def o200_5 : List IOp := [⟨some 5, .pu (.mov (.t 0)), none⟩, ⟨some 6, .pu (.eqz false .p (.t 5) (.c (.p none))), none⟩, ⟨some 7, .pu (.mov (.t 6)), none⟩] ++ o200_4
def c200 : IC := (.seq (.region [⟨some 3, .al (.box (.t 1)), none⟩, ⟨some 4, .pu (.mov (.c (.b false))), none⟩]) (.seq (.seq (.region o200_5) c200_2) c200_1))
def ir200 : IFn := { ntmps := 24, results := rs200, body := c200 }
/-! (*cableway/worker.Worker).Load -/
def rs202 : List RV := [(.t 2)]
def c202 : IC := (.seq (.region [⟨some 2, .pu (.mov (.c (.i .i64 0))), none⟩]) (.seq (.seq (.region [⟨some 3, .pu (.mov (.t 0)), none⟩, ⟨some 4, .pu (.eqz false .p (.t 3) (.c (.p none))), none⟩]) (.cond (.t 4) (.seq (.region [⟨some 2, .pu (.mov (.c (.i .i64 0))), none⟩]) .ret) .skip)) (.seq (.seq (.region [⟨some 5, .pu (.mov (.t 0)), none⟩, ⟨some 6, .pu (.nilc (.t 5)), none⟩, ⟨some 7, .pu (.fa 2 (.t 6)), none⟩, ⟨some 8, .ld false 1 (.t 7), none⟩]) (.cond (.t 8) (.seq (.region [⟨some 9, .pu (.mov (.t 0)), none⟩, ⟨some 10, .pu (.nilc (.t 9)), none⟩, ⟨some 11, .pu (.fa 1 (.t 10)), none⟩, ⟨some 12, .ld false 1 (.t 11), none⟩, ⟨some 13, .pu (.lens (.t 12)), none⟩, ⟨some 14, .pu (.bin .add (.t 13) (.c (.i .i64 1))), none⟩, ⟨some 2, .pu (.mov (.t 14)), none⟩]) .ret) .skip)) (.seq (.region [⟨some 15, .pu (.mov (.t 0)), none⟩, ⟨some 16, .pu (.nilc (.t 15)), none⟩, ⟨some 17, .pu (.fa 1 (.t 16)), none⟩, ⟨some 18, .ld false 1 (.t 17), none⟩, ⟨some 19, .pu (.lens (.t 18)), none⟩, ⟨some 2, .pu (.mov (.t 19)), none⟩]) .ret))))
def ir202 : IFn := { ntmps := 20, results := rs202, body := c202 }
/-! slices.Index[[]int,int] -/
def rs207 : List RV := [(.t 4)]
def c207_1 : IC := (.seq (.region [⟨some 4, .pu (.mov (.c (.i .i64 (-1)))), none⟩]) .ret)
def c207_2 : IC := (.seq (.region [⟨some 9, .pu (.bin .lss (.t 8) (.t 7)), none⟩]) (.seq (.cond (.t 9) .skip (.exit 0)) (.seq (.block 1 (.seq (.region [⟨some 10, .pu (.mov (.t 8)), none⟩, ⟨some 5, .pu (.mov (.t 10)), none⟩]) (.seq (.region [⟨some 11, .pu (.mov (.t 1)), none⟩, ⟨some 12, .pu (.mov (.t 0)), none⟩, ⟨some 13, .pu (.mov (.t 5)), none⟩, ⟨some 14, .pu (.ia 1 (.t 12) (.t 13)), none⟩, ⟨some 15, .ld false 1 (.t 14), none⟩, ⟨some 16, .pu (.bin .eql (.t 11) (.t 15)), none⟩]) (.cond (.t 16) (.seq (.region [⟨some 17, .pu (.mov (.t 5)), none⟩, ⟨some 4, .pu (.mov (.t 17)), none⟩]) .ret) .skip)))) (.region [⟨some 18, .pu (.bin .add (.t 8) (.c (.i .i64 1))), none⟩, ⟨some 8, .pu (.mov (.t 18)), none⟩]))))
def c207 : IC := (.seq (.region [⟨some 4, .pu (.mov (.c (.i .i64 0))), none⟩]) (.seq (.seq (.region [⟨some 6, .pu (.mov (.t 0)), none⟩, ⟨some 7, .pu (.lens (.t 6)), none⟩, ⟨some 8, .pu (.mov (.c (.i .i64 0))), none⟩]) (.block 0 (.loop c207_2))) c207_1))
def ir207 : IFn := { ntmps := 19, results := rs207, body := c207 }
/-! (*cableway/worker.Worker).Room -/
def rs241 : List RV := [(.t 2)]
def c241 : IC := (.seq (.region [⟨some 2, .pu (.mov (.c (.i .i64 0))), none⟩]) (.seq (.seq (.region [⟨some 3, .pu (.mov (.t 0)), none⟩, ⟨some 4, .pu (.eqz false .p (.t 3) (.c (.p none))), none⟩]) (.cond (.t 4) (.seq (.region [⟨some 2, .pu (.mov (.c (.i .i64 0))), none⟩]) .ret) .skip)) (.seq (.region [⟨some 5, .pu (.mov (.t 0)), none⟩, ⟨some 6, .pu (.nilc (.t 5)), none⟩, ⟨some 7, .pu (.fa 0 (.t 6)), none⟩, ⟨some 8, .ld false 1 (.t 7), none⟩, ⟨some 9, .pu (.bin .add (.t 8) (.c (.i .i64 1))), none⟩, ⟨some 2, .pu (.mov (.t 9)), none⟩]) .ret)))
def ir241 : IFn := { ntmps := 10, results := rs241, body := c241 }
def tree : Tr IFn := (.n (.n (.n (.n (.n (.n (.n (.n .l (some ir127) .l) (some ir63) .l) none .l) none (.n (.n .l (some ir79) (.n .l (some ir207) .l)) none (.n .l (some ir111) .l))) none (.n (.n (.n .l (some ir71) (.n .l (some ir199) .l)) none (.n .l (some ir103) .l)) (some ir23) (.n (.n (.n .l (some ir151) .l) (some ir87) .l) none .l))) none (.n (.n (.n (.n .l (some ir67) (.n .l (some ir195) .l)) none .l) (some ir19) (.n (.n .l (some ir83) .l) none (.n .l (some ir115) .l))) none (.n (.n (.n .l (some ir75) .l) none (.n .l (some ir107) .l)) (some ir27) (.n .l none (.n .l (some ir123) .l))))) none (.n (.n (.n (.n (.n (.n .l (some ir129) .l) (some ir65) (.n .l (some ir193) .l)) none .l) none (.n (.n .l (some ir81) .l) none (.n .l (some ir113) (.n .l (some ir241) .l)))) none (.n (.n (.n .l (some ir73) .l) none (.n .l (some ir105) .l)) (some ir25) (.n (.n (.n .l (some ir153) .l) none .l) none .l))) none (.n (.n (.n (.n .l (some ir69) .l) none .l) (some ir21) (.n (.n (.n .l (some ir149) .l) (some ir85) .l) none (.n .l (some ir117) .l))) (some ir13) (.n (.n (.n .l (some ir77) .l) none (.n .l (some ir109) .l)) none (.n (.n (.n .l (some ir157) .l) none .l) (some ir61) (.n .l (some ir125) .l)))))) none (.n (.n (.n (.n (.n (.n (.n .l (some ir128) .l) (some ir64) .l) none .l) (some ir16) (.n (.n .l (some ir80) .l) none (.n .l (some ir112) .l))) none (.n (.n (.n .l (some ir72) (.n .l (some ir200) .l)) none (.n .l (some ir104) .l)) (some ir24) (.n (.n (.n .l (some ir152) .l) none .l) none (.n .l (some ir120) .l)))) (some ir4) (.n (.n (.n (.n .l (some ir68) (.n .l (some ir196) .l)) none .l) (some ir20) (.n (.n (.n .l (some ir148) .l) (some ir84) .l) none (.n .l (some ir116) .l))) (some ir12) (.n (.n (.n .l (some ir76) .l) none (.n .l (some ir108) .l)) none (.n .l (some ir60) (.n .l (some ir124) .l))))) none (.n (.n (.n (.n (.n .l (some ir66) (.n .l (some ir194) .l)) none .l) (some ir18) (.n .l none (.n .l (some ir114) .l))) (some ir10) (.n (.n (.n .l (some ir74) (.n .l (some ir202) .l)) none (.n .l (some ir106) .l)) (some ir26) (.n .l (some ir58) .l))) none (.n (.n (.n (.n .l (some ir70) .l) none .l) (some ir22) (.n (.n (.n .l (some ir150) .l) none .l) none (.n .l (some ir118) .l))) (some ir14) (.n (.n (.n .l (some ir78) .l) none (.n .l (some ir110) .l)) none (.n .l (some ir62) (.n .l (some ir126) .l)))))))
def IP (f : Nat) : Option IFn := tree.get f
theorem ok4 : ∃ fn, Tryz.prog.funcs[4]? = some fn ∧ trFn Tryz.prog 13 fn = some ir4 := ⟨_, Tryz.func4, by kernel_rfl⟩
theorem ok10 : ∃ fn, Tryz.prog.funcs[10]? = some fn ∧ trFn Tryz.prog 13 fn = some ir10 := ⟨_, Tryz.func10, by kernel_rfl⟩
theorem ok12 : ∃ fn, Tryz.prog.funcs[12]? = some fn ∧ trFn Tryz.prog 13 fn = some ir12 := ⟨_, Tryz.func12, by kernel_rfl⟩
theorem ok13 : ∃ fn, Tryz.prog.funcs[13]? = some fn ∧ trFn Tryz.prog 13 fn = some ir13 := ⟨_, Tryz.func13, by kernel_rfl⟩
theorem ok14 : ∃ fn, Tryz.prog.funcs[14]? = some fn ∧ trFn Tryz.prog 13 fn = some ir14 := ⟨_, Tryz.func14, by kernel_rfl⟩
theorem ok16 : ∃ fn, Tryz.prog.funcs[16]? = some fn ∧ trFn Tryz.prog 13 fn = some ir16 := ⟨_, Tryz.func16, by kernel_rfl⟩
theorem ok18 : ∃ fn, Tryz.prog.funcs[18]? = some fn ∧ trFn Tryz.prog 13 fn = some ir18 := ⟨_, Tryz.func18, by kernel_rfl⟩
theorem ok19 : ∃ fn, Tryz.prog.funcs[19]? = some fn ∧ trFn Tryz.prog 13 fn = some ir19 := ⟨_, Tryz.func19, by kernel_rfl⟩
theorem ok20 : ∃ fn, Tryz.prog.funcs[20]? = some fn ∧ trFn Tryz.prog 13 fn = some ir20 := ⟨_, Tryz.func20, by kernel_rfl⟩
theorem ok21 : ∃ fn, Tryz.prog.funcs[21]? = some fn ∧ trFn Tryz.prog 13 fn = some ir21 := ⟨_, Tryz.func21, by kernel_rfl⟩
theorem ok22 : ∃ fn, Tryz.prog.funcs[22]? = some fn ∧ trFn Tryz.prog 13 fn = some ir22 := ⟨_, Tryz.func22, by kernel_rfl⟩
theorem ok23 : ∃ fn, Tryz.prog.funcs[23]? = some fn ∧ trFn Tryz.prog 13 fn = some ir23 := ⟨_, Tryz.func23, by kernel_rfl⟩
theorem ok24 : ∃ fn, Tryz.prog.funcs[24]? = some fn ∧ trFn Tryz.prog 13 fn = some ir24 := ⟨_, Tryz.func24, by kernel_rfl⟩
theorem ok25 : ∃ fn, Tryz.prog.funcs[25]? = some fn ∧ trFn Tryz.prog 13 fn = some ir25 := ⟨_, Tryz.func25, by kernel_rfl⟩
theorem ok26 : ∃ fn, Tryz.prog.funcs[26]? = some fn ∧ trFn Tryz.prog 13 fn = some ir26 := ⟨_, Tryz.func26, by kernel_rfl⟩
theorem ok27 : ∃ fn, Tryz.prog.funcs[27]? = some fn ∧ trFn Tryz.prog 13 fn = some ir27 := ⟨_, Tryz.func27, by kernel_rfl⟩
theorem ok58 : ∃ fn, Tryz.prog.funcs[58]? = some fn ∧ trFn Tryz.prog 13 fn = some ir58 := ⟨_, Tryz.func58, by kernel_rfl⟩
theorem ok60 : ∃ fn, Tryz.prog.funcs[60]? = some fn ∧ trFn Tryz.prog 13 fn = some ir60 := ⟨_, Tryz.func60, by kernel_rfl⟩
theorem ok61 : ∃ fn, Tryz.prog.funcs[61]? = some fn ∧ trFn Tryz.prog 13 fn = some ir61 := ⟨_, Tryz.func61, by kernel_rfl⟩
theorem ok62 : ∃ fn, Tryz.prog.funcs[62]? = some fn ∧ trFn Tryz.prog 13 fn = some ir62 := ⟨_, Tryz.func62, by kernel_rfl⟩
theorem ok63 : ∃ fn, Tryz.prog.funcs[63]? = some fn ∧ trFn Tryz.prog 13 fn = some ir63 := ⟨_, Tryz.func63, by kernel_rfl⟩
theorem ok64 : ∃ fn, Tryz.prog.funcs[64]? = some fn ∧ trFn Tryz.prog 13 fn = some ir64 := ⟨_, Tryz.func64, by kernel_rfl⟩
theorem ok65 : ∃ fn, Tryz.prog.funcs[65]? = some fn ∧ trFn Tryz.prog 13 fn = some ir65 := ⟨_, Tryz.func65, by kernel_rfl⟩
theorem ok66 : ∃ fn, Tryz.prog.funcs[66]? = some fn ∧ trFn Tryz.prog 13 fn = some ir66 := ⟨_, Tryz.func66, by kernel_rfl⟩
theorem ok67 : ∃ fn, Tryz.prog.funcs[67]? = some fn ∧ trFn Tryz.prog 13 fn = some ir67 := ⟨_, Tryz.func67, by kernel_rfl⟩
theorem ok68 : ∃ fn, Tryz.prog.funcs[68]? = some fn ∧ trFn Tryz.prog 13 fn = some ir68 := ⟨_, Tryz.func68, by kernel_rfl⟩
theorem ok69 : ∃ fn, Tryz.prog.funcs[69]? = some fn ∧ trFn Tryz.prog 13 fn = some ir69 := ⟨_, Tryz.func69, by kernel_rfl⟩
theorem ok70 : ∃ fn, Tryz.prog.funcs[70]? = some fn ∧ trFn Tryz.prog 13 fn = some ir70 := ⟨_, Tryz.func70, by kernel_rfl⟩
theorem ok71 : ∃ fn, Tryz.prog.funcs[71]? = some fn ∧ trFn Tryz.prog 13 fn = some ir71 := ⟨_, Tryz.func71, by kernel_rfl⟩
theorem ok72 : ∃ fn, Tryz.prog.funcs[72]? = some fn ∧ trFn Tryz.prog 13 fn = some ir72 := ⟨_, Tryz.func72, by kernel_rfl⟩
theorem ok73 : ∃ fn, Tryz.prog.funcs[73]? = some fn ∧ trFn Tryz.prog 13 fn = some ir73 := ⟨_, Tryz.func73, by kernel_rfl⟩
theorem ok74 : ∃ fn, Tryz.prog.funcs[74]? = some fn ∧ trFn Tryz.prog 13 fn = some ir74 := ⟨_, Tryz.func74, by kernel_rfl⟩
theorem ok75 : ∃ fn, Tryz.prog.funcs[75]? = some fn ∧ trFn Tryz.prog 13 fn = some ir75 := ⟨_, Tryz.func75, by kernel_rfl⟩
theorem ok76 : ∃ fn, Tryz.prog.funcs[76]? = some fn ∧ trFn Tryz.prog 13 fn = some ir76 := ⟨_, Tryz.func76, by kernel_rfl⟩
theorem ok77 : ∃ fn, Tryz.prog.funcs[77]? = some fn ∧ trFn Tryz.prog 13 fn = some ir77 := ⟨_, Tryz.func77, by kernel_rfl⟩
theorem ok78 : ∃ fn, Tryz.prog.funcs[78]? = some fn ∧ trFn Tryz.prog 13 fn = some ir78 := ⟨_, Tryz.func78, by kernel_rfl⟩
theorem ok79 : ∃ fn, Tryz.prog.funcs[79]? = some fn ∧ trFn Tryz.prog 13 fn = some ir79 := ⟨_, Tryz.func79, by kernel_rfl⟩
theorem ok80 : ∃ fn, Tryz.prog.funcs[80]? = some fn ∧ trFn Tryz.prog 13 fn = some ir80 := ⟨_, Tryz.func80, by kernel_rfl⟩
theorem ok81 : ∃ fn, Tryz.prog.funcs[81]? = some fn ∧ trFn Tryz.prog 13 fn = some ir81 := ⟨_, Tryz.func81, by kernel_rfl⟩
theorem ok83 : ∃ fn, Tryz.prog.funcs[83]? = some fn ∧ trFn Tryz.prog 13 fn = some ir83 := ⟨_, Tryz.func83, by kernel_rfl⟩
theorem ok84 : ∃ fn, Tryz.prog.funcs[84]? = some fn ∧ trFn Tryz.prog 13 fn = some ir84 := ⟨_, Tryz.func84, by kernel_rfl⟩
theorem ok85 : ∃ fn, Tryz.prog.funcs[85]? = some fn ∧ trFn Tryz.prog 13 fn = some ir85 := ⟨_, Tryz.func85, by kernel_rfl⟩
theorem ok87 : ∃ fn, Tryz.prog.funcs[87]? = some fn ∧ trFn Tryz.prog 13 fn = some ir87 := ⟨_, Tryz.func87, by kernel_rfl⟩
theorem ok103 : ∃ fn, Tryz.prog.funcs[103]? = some fn ∧ trFn Tryz.prog 13 fn = some ir103 := ⟨_, Tryz.func103, by kernel_rfl⟩
theorem ok104 : ∃ fn, Tryz.prog.funcs[104]? = some fn ∧ trFn Tryz.prog 13 fn = some ir104 := ⟨_, Tryz.func104, by kernel_rfl⟩
theorem ok105 : ∃ fn, Tryz.prog.funcs[105]? = some fn ∧ trFn Tryz.prog 13 fn = some ir105 := ⟨_, Tryz.func105, by kernel_rfl⟩
theorem ok106 : ∃ fn, Tryz.prog.funcs[106]? = some fn ∧ trFn Tryz.prog 13 fn = some ir106 := ⟨_, Tryz.func106, by kernel_rfl⟩
theorem ok107 : ∃ fn, Tryz.prog.funcs[107]? = some fn ∧ trFn Tryz.prog 13 fn = some ir107 := ⟨_, Tryz.func107, by kernel_rfl⟩
theorem ok108 : ∃ fn, Tryz.prog.funcs[108]? = some fn ∧ trFn Tryz.prog 13 fn = some ir108 := ⟨_, Tryz.func108, by kernel_rfl⟩
theorem ok109 : ∃ fn, Tryz.prog.funcs[109]? = some fn ∧ trFn Tryz.prog 13 fn = some ir109 := ⟨_, Tryz.func109, by kernel_rfl⟩
theorem ok110 : ∃ fn, Tryz.prog.funcs[110]? = some fn ∧ trFn Tryz.prog 13 fn = some ir110 := ⟨_, Tryz.func110, by kernel_rfl⟩
theorem ok111 : ∃ fn, Tryz.prog.funcs[111]? = some fn ∧ trFn Tryz.prog 13 fn = some ir111 := ⟨_, Tryz.func111, by kernel_rfl⟩
theorem ok112 : ∃ fn, Tryz.prog.funcs[112]? = some fn ∧ trFn Tryz.prog 13 fn = some ir112 := ⟨_, Tryz.func112, by kernel_rfl⟩
theorem ok113 : ∃ fn, Tryz.prog.funcs[113]? = some fn ∧ trFn Tryz.prog 13 fn = some ir113 := ⟨_, Tryz.func113, by kernel_rfl⟩
theorem ok114 : ∃ fn, Tryz.prog.funcs[114]? = some fn ∧ trFn Tryz.prog 13 fn = some ir114 := ⟨_, Tryz.func114, by kernel_rfl⟩
theorem ok115 : ∃ fn, Tryz.prog.funcs[115]? = some fn ∧ trFn Tryz.prog 13 fn = some ir115 := ⟨_, Tryz.func115, by kernel_rfl⟩
theorem ok116 : ∃ fn, Tryz.prog.funcs[116]? = some fn ∧ trFn Tryz.prog 13 fn = some ir116 := ⟨_, Tryz.func116, by kernel_rfl⟩
theorem ok117 : ∃ fn, Tryz.prog.funcs[117]? = some fn ∧ trFn Tryz.prog 13 fn = some ir117 := ⟨_, Tryz.func117, by kernel_rfl⟩
theorem ok118 : ∃ fn, Tryz.prog.funcs[118]? = some fn ∧ trFn Tryz.prog 13 fn = some ir118 := ⟨_, Tryz.func118, by kernel_rfl⟩
theorem ok120 : ∃ fn, Tryz.prog.funcs[120]? = some fn ∧ trFn Tryz.prog 13 fn = some ir120 := ⟨_, Tryz.func120, by kernel_rfl⟩
theorem ok123 : ∃ fn, Tryz.prog.funcs[123]? = some fn ∧ trFn Tryz.prog 13 fn = some ir123 := ⟨_, Tryz.func123, by kernel_rfl⟩
theorem ok124 : ∃ fn, Tryz.prog.funcs[124]? = some fn ∧ trFn Tryz.prog 13 fn = some ir124 := ⟨_, Tryz.func124, by kernel_rfl⟩
theorem ok125 : ∃ fn, Tryz.prog.funcs[125]? = some fn ∧ trFn Tryz.prog 13 fn = some ir125 := ⟨_, Tryz.func125, by kernel_rfl⟩
theorem ok126 : ∃ fn, Tryz.prog.funcs[126]? = some fn ∧ trFn Tryz.prog 13 fn = some ir126 := ⟨_, Tryz.func126, by kernel_rfl⟩
theorem ok127 : ∃ fn, Tryz.prog.funcs[127]? = some fn ∧ trFn Tryz.prog 13 fn = some ir127 := ⟨_, Tryz.func127, by kernel_rfl⟩
theorem ok128 : ∃ fn, Tryz.prog.funcs[128]? = some fn ∧ trFn Tryz.prog 13 fn = some ir128 := ⟨_, Tryz.func128, by kernel_rfl⟩
theorem ok129 : ∃ fn, Tryz.prog.funcs[129]? = some fn ∧ trFn Tryz.prog 13 fn = some ir129 := ⟨_, Tryz.func129, by kernel_rfl⟩
theorem ok148 : ∃ fn, Tryz.prog.funcs[148]? = some fn ∧ trFn Tryz.prog 13 fn = some ir148 := ⟨_, Tryz.func148, by kernel_rfl⟩
theorem ok149 : ∃ fn, Tryz.prog.funcs[149]? = some fn ∧ trFn Tryz.prog 13 fn = some ir149 := ⟨_, Tryz.func149, by kernel_rfl⟩
theorem ok150 : ∃ fn, Tryz.prog.funcs[150]? = some fn ∧ trFn Tryz.prog 13 fn = some ir150 := ⟨_, Tryz.func150, by kernel_rfl⟩
theorem ok151 : ∃ fn, Tryz.prog.funcs[151]? = some fn ∧ trFn Tryz.prog 13 fn = some ir151 := ⟨_, Tryz.func151, by kernel_rfl⟩
theorem ok152 : ∃ fn, Tryz.prog.funcs[152]? = some fn ∧ trFn Tryz.prog 13 fn = some ir152 := ⟨_, Tryz.func152, by kernel_rfl⟩
theorem ok153 : ∃ fn, Tryz.prog.funcs[153]? = some fn ∧ trFn Tryz.prog 13 fn = some ir153 := ⟨_, Tryz.func153, by kernel_rfl⟩
theorem ok157 : ∃ fn, Tryz.prog.funcs[157]? = some fn ∧ trFn Tryz.prog 13 fn = some ir157 := ⟨_, Tryz.func157, by kernel_rfl⟩
theorem ok193 : ∃ fn, Tryz.prog.funcs[193]? = some fn ∧ trFn Tryz.prog 13 fn = some ir193 := ⟨_, Tryz.func193, by kernel_rfl⟩
theorem ok194 : ∃ fn, Tryz.prog.funcs[194]? = some fn ∧ trFn Tryz.prog 13 fn = some ir194 := ⟨_, Tryz.func194, by kernel_rfl⟩
theorem ok195 : ∃ fn, Tryz.prog.funcs[195]? = some fn ∧ trFn Tryz.prog 13 fn = some ir195 := ⟨_, Tryz.func195, by kernel_rfl⟩
theorem ok196 : ∃ fn, Tryz.prog.funcs[196]? = some fn ∧ trFn Tryz.prog 13 fn = some ir196 := ⟨_, Tryz.func196, by kernel_rfl⟩
theorem ok199 : ∃ fn, Tryz.prog.funcs[199]? = some fn ∧ trFn Tryz.prog 13 fn = some ir199 := ⟨_, Tryz.func199, by kernel_rfl⟩
theorem ok200 : ∃ fn, Tryz.prog.funcs[200]? = some fn ∧ trFn Tryz.prog 13 fn = some ir200 := ⟨_, Tryz.func200, by kernel_rfl⟩
theorem ok202 : ∃ fn, Tryz.prog.funcs[202]? = some fn ∧ trFn Tryz.prog 13 fn = some ir202 := ⟨_, Tryz.func202, by kernel_rfl⟩
theorem ok207 : ∃ fn, Tryz.prog.funcs[207]? = some fn ∧ trFn Tryz.prog 13 fn = some ir207 := ⟨_, Tryz.func207, by kernel_rfl⟩
theorem ok241 : ∃ fn, Tryz.prog.funcs[241]? = some fn ∧ trFn Tryz.prog 13 fn = some ir241 := ⟨_, Tryz.func241, by kernel_rfl⟩
theorem all : tree.All (fun f ir => ∃ fn, Tryz.prog.funcs[f]? = some fn ∧ trFn Tryz.prog 13 fn = some ir) 1 0 :=
  ⟨(fun _ h => by cases h), ⟨(fun _ h => by cases h), ⟨(fun _ h => by cases h), ⟨(fun _ h => by cases h), ⟨(fun _ h => by cases h), ⟨(fun _ h => by cases h), ⟨(fun _ h => by cases h; exact ok63), ⟨(fun _ h => by cases h; exact ok127), trivial, trivial⟩, trivial⟩, trivial⟩, ⟨(fun _ h => by cases h), ⟨(fun _ h => by cases h; exact ok79), trivial, ⟨(fun _ h => by cases h; exact ok207), trivial, trivial⟩⟩, ⟨(fun _ h => by cases h; exact ok111), trivial, trivial⟩⟩⟩, ⟨(fun _ h => by cases h; exact ok23), ⟨(fun _ h => by cases h), ⟨(fun _ h => by cases h; exact ok71), trivial, ⟨(fun _ h => by cases h; exact ok199), trivial, trivial⟩⟩, ⟨(fun _ h => by cases h; exact ok103), trivial, trivial⟩⟩, ⟨(fun _ h => by cases h), ⟨(fun _ h => by cases h; exact ok87), ⟨(fun _ h => by cases h; exact ok151), trivial, trivial⟩, trivial⟩, trivial⟩⟩⟩, ⟨(fun _ h => by cases h), ⟨(fun _ h => by cases h; exact ok19), ⟨(fun _ h => by cases h), ⟨(fun _ h => by cases h; exact ok67), trivial, ⟨(fun _ h => by cases h; exact ok195), trivial, trivial⟩⟩, trivial⟩, ⟨(fun _ h => by cases h), ⟨(fun _ h => by cases h; exact ok83), trivial, trivial⟩, ⟨(fun _ h => by cases h; exact ok115), trivial, trivial⟩⟩⟩, ⟨(fun _ h => by cases h; exact ok27), ⟨(fun _ h => by cases h), ⟨(fun _ h => by cases h; exact ok75), trivial, trivial⟩, ⟨(fun _ h => by cases h; exact ok107), trivial, trivial⟩⟩, ⟨(fun _ h => by cases h), trivial, ⟨(fun _ h => by cases h; exact ok123), trivial, trivial⟩⟩⟩⟩⟩, ⟨(fun _ h => by cases h), ⟨(fun _ h => by cases h), ⟨(fun _ h => by cases h), ⟨(fun _ h => by cases h), ⟨(fun _ h => by cases h; exact ok65), ⟨(fun _ h => by cases h; exact ok129), trivial, trivial⟩, ⟨(fun _ h => by cases h; exact ok193), trivial, trivial⟩⟩, trivial⟩, ⟨(fun _ h => by cases h), ⟨(fun _ h => by cases h; exact ok81), trivial, trivial⟩, ⟨(fun _ h => by cases h; exact ok113), trivial, ⟨(fun _ h => by cases h; exact ok241), trivial, trivial⟩⟩⟩⟩, ⟨(fun _ h => by cases h; exact ok25), ⟨(fun _ h => by cases h), ⟨(fun _ h => by cases h; exact ok73), trivial, trivial⟩, ⟨(fun _ h => by cases h; exact ok105), trivial, trivial⟩⟩, ⟨(fun _ h => by cases h), ⟨(fun _ h => by cases h), ⟨(fun _ h => by cases h; exact ok153), trivial, trivial⟩, trivial⟩, trivial⟩⟩⟩, ⟨(fun _ h => by cases h; exact ok13), ⟨(fun _ h => by cases h; exact ok21), ⟨(fun _ h => by cases h), ⟨(fun _ h => by cases h; exact ok69), trivial, trivial⟩, trivial⟩, ⟨(fun _ h => by cases h), ⟨(fun _ h => by cases h; exact ok85), ⟨(fun _ h => by cases h; exact ok149), trivial, trivial⟩, trivial⟩, ⟨(fun _ h => by cases h; exact ok117), trivial, trivial⟩⟩⟩, ⟨(fun _ h => by cases h), ⟨(fun _ h => by cases h), ⟨(fun _ h => by cases h; exact ok77), trivial, trivial⟩, ⟨(fun _ h => by cases h; exact ok109), trivial, trivial⟩⟩, ⟨(fun _ h => by cases h; exact ok61), ⟨(fun _ h => by cases h), ⟨(fun _ h => by cases h; exact ok157), trivial, trivial⟩, trivial⟩, ⟨(fun _ h => by cases h; exact ok125), trivial, trivial⟩⟩⟩⟩⟩⟩, ⟨(fun _ h => by cases h), ⟨(fun _ h => by cases h; exact ok4), ⟨(fun _ h => by cases h), ⟨(fun _ h => by cases h; exact ok16), ⟨(fun _ h => by cases h), ⟨(fun _ h => by cases h; exact ok64), ⟨(fun _ h => by cases h; exact ok128), trivial, trivial⟩, trivial⟩, trivial⟩, ⟨(fun _ h => by cases h), ⟨(fun _ h => by cases h; exact ok80), trivial, trivial⟩, ⟨(fun _ h => by cases h; exact ok112), trivial, trivial⟩⟩⟩, ⟨(fun _ h => by cases h; exact ok24), ⟨(fun _ h => by cases h), ⟨(fun _ h => by cases h; exact ok72), trivial, ⟨(fun _ h => by cases h; exact ok200), trivial, trivial⟩⟩, ⟨(fun _ h => by cases h; exact ok104), trivial, trivial⟩⟩, ⟨(fun _ h => by cases h), ⟨(fun _ h => by cases h), ⟨(fun _ h => by cases h; exact ok152), trivial, trivial⟩, trivial⟩, ⟨(fun _ h => by cases h; exact ok120), trivial, trivial⟩⟩⟩⟩, ⟨(fun _ h => by cases h; exact ok12), ⟨(fun _ h => by cases h; exact ok20), ⟨(fun _ h => by cases h), ⟨(fun _ h => by cases h; exact ok68), trivial, ⟨(fun _ h => by cases h; exact ok196), trivial, trivial⟩⟩, trivial⟩, ⟨(fun _ h => by cases h), ⟨(fun _ h => by cases h; exact ok84), ⟨(fun _ h => by cases h; exact ok148), trivial, trivial⟩, trivial⟩, ⟨(fun _ h => by cases h; exact ok116), trivial, trivial⟩⟩⟩, ⟨(fun _ h => by cases h), ⟨(fun _ h => by cases h), ⟨(fun _ h => by cases h; exact ok76), trivial, trivial⟩, ⟨(fun _ h => by cases h; exact ok108), trivial, trivial⟩⟩, ⟨(fun _ h => by cases h; exact ok60), trivial, ⟨(fun _ h => by cases h; exact ok124), trivial, trivial⟩⟩⟩⟩⟩, ⟨(fun _ h => by cases h), ⟨(fun _ h => by cases h; exact ok10), ⟨(fun _ h => by cases h; exact ok18), ⟨(fun _ h => by cases h), ⟨(fun _ h => by cases h; exact ok66), trivial, ⟨(fun _ h => by cases h; exact ok194), trivial, trivial⟩⟩, trivial⟩, ⟨(fun _ h => by cases h), trivial, ⟨(fun _ h => by cases h; exact ok114), trivial, trivial⟩⟩⟩, ⟨(fun _ h => by cases h; exact ok26), ⟨(fun _ h => by cases h), ⟨(fun _ h => by cases h; exact ok74), trivial, ⟨(fun _ h => by cases h; exact ok202), trivial, trivial⟩⟩, ⟨(fun _ h => by cases h; exact ok106), trivial, trivial⟩⟩, ⟨(fun _ h => by cases h; exact ok58), trivial, trivial⟩⟩⟩, ⟨(fun _ h => by cases h; exact ok14), ⟨(fun _ h => by cases h; exact ok22), ⟨(fun _ h => by cases h), ⟨(fun _ h => by cases h; exact ok70), trivial, trivial⟩, trivial⟩, ⟨(fun _ h => by cases h), ⟨(fun _ h => by cases h), ⟨(fun _ h => by cases h; exact ok150), trivial, trivial⟩, trivial⟩, ⟨(fun _ h => by cases h; exact ok118), trivial, trivial⟩⟩⟩, ⟨(fun _ h => by cases h), ⟨(fun _ h => by cases h), ⟨(fun _ h => by cases h; exact ok78), trivial, trivial⟩, ⟨(fun _ h => by cases h; exact ok110), trivial, trivial⟩⟩, ⟨(fun _ h => by cases h; exact ok62), trivial, ⟨(fun _ h => by cases h; exact ok126), trivial, trivial⟩⟩⟩⟩⟩⟩⟩
theorem bare : @AllBare ⟨13⟩ IP := @allBare ⟨13⟩ tree (by kernel_rfl)
theorem prog : ProgOK Tryz.prog 13 IP := progOK_of_tree (by kernel_rfl) all
theorem ip4 : IP 4 = some ir4 := rfl
def Q4 [q : Hid (V → H → Prop)] : X → E → H → Prop := Qr rs4 q.un
def S4_16 [q : Hid (V → H → Prop)] : E → H → Prop := ((Qx (den IP .ret (@Q4 q)) (@Q4 q)) X.normal)
def K4_16 (x57 x61 : V) (h : H) [q : Hid (V → H → Prop)] : Prop := @Bnd V (vPick x57 x61 (.b false)) ⟨fun v1 => @Hid.un (V → H → Prop) q v1 h⟩
def J4_16 [q : Hid (V → H → Prop)] : E → H → Prop := fun e h => @K4_16 (e 57) (e 61) h q
theorem p4_16 [q : Hid (V → H → Prop)] : denOps IP o4_1 (@S4_16 q) = (@J4_16 q) := by
  refine Eq.trans (app_eq rfl rfl) ?_
  kernel_rfl
def S4_17 [q : Hid (V → H → Prop)] : E → H → Prop := ((Qx (den IP .ret (@Q4 q)) (@Q4 q)) X.normal)
def K4_17 (x42 x55 : V) (h : H) [q : Hid (V → H → Prop)] : Prop := @Bnd V (vPick x42 x55 (.b false)) ⟨fun v1 => @Grd v1 true ⟨@Bnd V (vBld [(.i .i64 0), (.i .i64 0)] [(1, 1, (.i .i64 2))]) ⟨fun v2 => @Bnd (V × H) (vMake 16 [(.i .i64 0), (.i .i64 0)] (.i .i64 1) h) ⟨fun r3 => @wF IP 27 [(.p none), v2, r3.1] r3.2 ⟨fun v4 h5 => @Bnd V (vEqz false .p v4 (.p none)) ⟨fun v6 => @K4_16 v1 v6 h5 q⟩⟩⟩⟩⟩ ⟨@K4_16 v1 undefV h q⟩⟩
def J4_17 [q : Hid (V → H → Prop)] : E → H → Prop := fun e h => @K4_17 (e 42) (e 55) h q
theorem p4_17 [q : Hid (V → H → Prop)] : denOps IP o4_3 (@S4_17 q) = (@J4_17 q) := by
  refine Eq.trans (app_eq (grp_eq2 57 true rfl (@p4_16 q) rfl) rfl) ?_
  kernel_rfl
def S4_18 [q : Hid (V → H → Prop)] : E → H → Prop := ((Qx (den IP .ret (@Q4 q)) (@Q4 q)) X.normal)
def K4_18 (x42 x48 x51 x53 : V) (h : H) [q : Hid (V → H → Prop)] : Prop := @Grd x42 true ⟨@Bnd V (vPick x51 x53 (.b false)) ⟨fun v1 => @Bnd V (vEqz false .b x48 v1) ⟨fun v2 => @K4_17 x42 v2 h q⟩⟩⟩ ⟨@K4_17 x42 undefV h q⟩
def J4_18 [q : Hid (V → H → Prop)] : E → H → Prop := fun e h => @K4_18 (e 42) (e 48) (e 51) (e 53) h q
theorem p4_18 [q : Hid (V → H → Prop)] : denOps IP o4_4 (@S4_18 q) = (@J4_18 q) := by
  refine Eq.trans (grp_eq2 42 true rfl (@p4_17 q) rfl) ?_
  kernel_rfl
def S4_19 [q : Hid (V → H → Prop)] : E → H → Prop := ((Qx (den IP .ret (@Q4 q)) (@Q4 q)) X.normal)
def K4_19 (x7 x42 x48 x51 : V) (h : H) [q : Hid (V → H → Prop)] : Prop := @Grd x51 true ⟨@Bnd V (bin .leq x7 (.i .i64 4)) ⟨fun v1 => @K4_18 x42 x48 x51 v1 h q⟩⟩ ⟨@K4_18 x42 x48 x51 undefV h q⟩
def J4_19 [q : Hid (V → H → Prop)] : E → H → Prop := fun e h => @K4_19 (e 7) (e 42) (e 48) (e 51) h q
theorem p4_19 [q : Hid (V → H → Prop)] : denOps IP o4_5 (@S4_19 q) = (@J4_19 q) := by
  refine Eq.trans (grp_eq2 51 true rfl (@p4_18 q) rfl) ?_
  kernel_rfl
def S4_20 [q : Hid (V → H → Prop)] : E → H → Prop := ((Qx (den IP .ret (@Q4 q)) (@Q4 q)) X.normal)
def K4_20 (x7 x8 x36 x40 : V) (h : H) [q : Hid (V → H → Prop)] : Prop := @Bnd V (vPick x36 x40 (.b false)) ⟨fun v1 => @Grd v1 true ⟨@Bnd V (vBld [(.i .i64 0), (.i .i64 0)] [(1, 1, (.i .i64 2))]) ⟨fun v2 => @Bnd (V × H) (vMake 16 [(.i .i64 0), (.i .i64 0)] x7 h) ⟨fun r3 => @wF IP 27 [x8, v2, r3.1] r3.2 ⟨fun v4 h5 => @Bnd V (vEqz true .p v4 (.p none)) ⟨fun v6 => @Bnd V (bin .geq x7 (.i .i64 1)) ⟨fun v7 => @K4_19 x7 v1 v6 v7 h5 q⟩⟩⟩⟩⟩⟩ ⟨@K4_19 x7 v1 undefV undefV h q⟩⟩
def J4_20 [q : Hid (V → H → Prop)] : E → H → Prop := fun e h => @K4_20 (e 7) (e 8) (e 36) (e 40) h q
theorem p4_20 [q : Hid (V → H → Prop)] : denOps IP o4_7 (@S4_20 q) = (@J4_20 q) := by
  refine Eq.trans (app_eq (grp_eq2 42 true rfl (@p4_19 q) rfl) rfl) ?_
  kernel_rfl
def S4_21 [q : Hid (V → H → Prop)] : E → H → Prop := ((Qx (den IP .ret (@Q4 q)) (@Q4 q)) X.normal)
def K4_21 (x6 x7 x8 x30 x34 : V) (h : H) [q : Hid (V → H → Prop)] : Prop := @Bnd V (vPick x30 x34 (.b false)) ⟨fun v1 => @Grd v1 true ⟨@wF IP 26 [x6] h ⟨fun v2 h3 => @Bnd V (vLens v2) ⟨fun v4 => @Bnd V (bin .eql v4 (.i .i64 0)) ⟨fun v5 => @K4_20 x7 x8 v1 v5 h3 q⟩⟩⟩⟩ ⟨@K4_20 x7 x8 v1 undefV h q⟩⟩
def J4_21 [q : Hid (V → H → Prop)] : E → H → Prop := fun e h => @K4_21 (e 6) (e 7) (e 8) (e 30) (e 34) h q
theorem p4_21 [q : Hid (V → H → Prop)] : denOps IP o4_9 (@S4_21 q) = (@J4_21 q) := by
  refine Eq.trans (app_eq (grp_eq2 36 true rfl (@p4_20 q) rfl) rfl) ?_
  kernel_rfl
def S4_22 [q : Hid (V → H → Prop)] : E → H → Prop := ((Qx (den IP .ret (@Q4 q)) (@Q4 q)) X.normal)
def K4_22 (x1 x5 x6 x7 x8 x25 x28 : V) (h : H) [q : Hid (V → H → Prop)] : Prop := @Bnd V (vPick x25 x28 (.b false)) ⟨fun v1 => @Grd v1 true ⟨@wF IP 25 [x5, x1] h ⟨fun v2 h3 => @Bnd V (un .not v2) ⟨fun v4 => @K4_21 x6 x7 x8 v1 v4 h3 q⟩⟩⟩ ⟨@K4_21 x6 x7 x8 v1 undefV h q⟩⟩
def J4_22 [q : Hid (V → H → Prop)] : E → H → Prop := fun e h => @K4_22 (e 1) (e 5) (e 6) (e 7) (e 8) (e 25) (e 28) h q
theorem p4_22 [q : Hid (V → H → Prop)] : denOps IP o4_11 (@S4_22 q) = (@J4_22 q) := by
  refine Eq.trans (app_eq (grp_eq2 30 true rfl (@p4_21 q) rfl) rfl) ?_
  kernel_rfl
def S4_23 [q : Hid (V → H → Prop)] : E → H → Prop := ((Qx (den IP .ret (@Q4 q)) (@Q4 q)) X.normal)
def K4_23 (x1 x5 x6 x7 x8 x20 x23 : V) (h : H) [q : Hid (V → H → Prop)] : Prop := @Bnd V (vPick x20 x23 (.b false)) ⟨fun v1 => @Grd v1 true ⟨@wF IP 20 [x5] h ⟨fun v2 h3 => @Bnd V (bin .eql v2 (.i .i64 0)) ⟨fun v4 => @K4_22 x1 x5 x6 x7 x8 v1 v4 h3 q⟩⟩⟩ ⟨@K4_22 x1 x5 x6 x7 x8 v1 undefV h q⟩⟩
def J4_23 [q : Hid (V → H → Prop)] : E → H → Prop := fun e h => @K4_23 (e 1) (e 5) (e 6) (e 7) (e 8) (e 20) (e 23) h q
theorem p4_23 [q : Hid (V → H → Prop)] : denOps IP o4_13 (@S4_23 q) = (@J4_23 q) := by
  refine Eq.trans (app_eq (grp_eq2 25 true rfl (@p4_22 q) rfl) rfl) ?_
  kernel_rfl
def K4 (x0 x1 : V) (h : H) [q : Hid (V → H → Prop)] : Prop := @wF IP 21 [(.i .i64 3)] h ⟨fun v1 h2 => @wF IP 22 [(.p none), v1] h2 ⟨fun v3 h4 => @wF IP 23 [(.p none)] h4 ⟨fun v5 h6 => @Bnd V (bin .and x0 (.i .i64 7)) ⟨fun v7 => @Bnd V (vBld [(.i .i64 0), (.i .i64 0), (.i .i64 0), (.i .i64 0)] []) ⟨fun v8 => @wF IP 24 [v8] h6 ⟨fun v9 h10 => @wF IP 19 [] h10 ⟨fun v11 h12 => @Grd v11 true ⟨@wF IP 14 [(.p none)] h12 ⟨fun v13 h14 => @Bnd V (vEqz false .p v13 (.p none)) ⟨fun v15 => @K4_23 x1 (.p none) v1 v7 v9 v11 v15 h14 q⟩⟩⟩ ⟨@K4_23 x1 (.p none) v1 v7 v9 v11 undefV h12 q⟩⟩⟩⟩⟩⟩⟩⟩
theorem p4 [q : Hid (V → H → Prop)] : den IP c4 (@Q4 q) = fun e h => @K4 (e 0) (e 1) h q := by
  refine Eq.trans (seq_eq (seq_eq (seq_eq (seq_eq (seq_eq (seq_eq (seq_eq (seq_eq rfl (region_eq (app_eq (grp_eq2 20 true rfl (@p4_23 q) rfl) rfl))) rfl) rfl) rfl) rfl) rfl) rfl) rfl) ?_
  kernel_rfl
theorem f4 (a0 a1 : V) (h : H) (Q : V → H → Prop) : @wF IP 4 [a0, a1] h ⟨Q⟩ ↔ @K4 a0 a1 h ⟨Q⟩ := (Fnc_den (ip4) (by kernel_rfl) (by kernel_rfl) h Q).trans (iff_of_eq (congrFun (congrFun (@p4 ⟨Q⟩) _) h))
theorem ip10 : IP 10 = some ir10 := rfl
def rQ10 (C : Nat → List V → H → Rr) (k : Nat) : X → E → H → Rr := Qrr rs10
def rK10 (C : Nat → List V → H → Rr) (k : Nat) (x0 : V) (h : H) : Rr := (rB (some (.p (some (H.nx h, 0)), H.new h ⟨false, [(.p none), (.p none), (.i .i64 0), (.i .i64 0), (.i .i64 0), (.i .i64 0), (.i .i64 0), (.i .i64 0), (.i .u64 0), (.i .u64 0), (.b false)]⟩)) fun r1 => (rB (bin .mul (.i .i64 4) x0) fun v2 => (rB (bin .add (.i .i64 1) v2) fun v3 => (rB (bin .mul (.i .i64 3) v3) fun v4 => (rK (C 21 [v4] r1.2) fun v5 h6 => (rB (vBld [(.i .i64 0), (.i .i64 0)] [(1, 1, x0)]) fun v7 => (rB (vBld [(.i .i64 0), (.i .i64 0)] [(0, 1, v3), (1, 1, x0)]) fun v8 => (rB (bin .mul (.i .i64 2) v3) fun v9 => (rB (vBld [(.i .i64 0), (.i .i64 0)] [(0, 1, v9), (1, 1, x0)]) fun v10 => (rB (vBld [(.i .i64 0), (.i .i64 0), (.i .i64 0), (.i .i64 0)] [(0, 2, v8), (2, 2, v10)]) fun v11 => (rB (vBld [(.p none), (.p none), (.i .i64 0), (.i .i64 0), (.i .i64 0), (.i .i64 0), (.i .i64 0), (.i .i64 0), (.i .u64 0), (.i .u64 0), (.b false)] [(1, 1, v5), (2, 2, v7), (4, 4, v11), (10, 1, (.b true))]) fun v12 => (rB (some (.p (some (H.nx h6, 0)), H.new h6 ⟨false, [(.p none), (.p none), (.i .i64 0), (.i .i64 0), (.i .i64 0), (.i .i64 0), (.i .i64 0), (.i .i64 0), (.i .u64 0), (.i .u64 0), (.b false)]⟩)) fun r13 => (rB (vStore r13.2 11 r13.1 v12) fun r14 => (rB (vFa 1 r13.1) fun v15 => (rB (vLd1 r14.2 v15) fun v16 => (rB (vFa 2 r13.1) fun v17 => (rB (vLdA r14.2 2 v17) fun v18 => (rK (C 58 [v16, v18] r14.2) fun v19 h20 => (rB (vFa 1 r13.1) fun v21 => (rB (vLd1 h20 v21) fun v22 => (rB (vFa 4 r13.1) fun v23 => (rB (vIaa 2 2 v23 (.i .i64 0)) fun v24 => (rB (vLdA h20 2 v24) fun v25 => (rK (C 58 [v22, v25] h20) fun v26 h27 => (rB (vFa 1 r13.1) fun v28 => (rB (vLd1 h27 v28) fun v29 => (rB (vFa 4 r13.1) fun v30 => (rB (vIaa 2 2 v30 (.i .i64 1)) fun v31 => (rB (vLdA h27 2 v31) fun v32 => (rK (C 58 [v29, v32] h27) fun v33 h34 => (rB (vBld [(.i .i64 0), (.i .i64 0), (.i .i64 0), (.i .i64 0)] [(0, 1, (.i .i64 1)), (1, 1, (.i .i64 3)), (2, 1, (.i .i64 20)), (3, 1, (.i .i64 2))]) fun v35 => (rK (C 24 [v35] h34) fun v36 h37 => (rB (vFa 2 r13.1) fun v38 => (rB (vLdA h37 2 v38) fun v39 => (rB (vFa 4 r13.1) fun v40 => (rB (vSla 2 2 v40 none none none) fun v41 => (rK (C 27 [v36, v39, v41] h37) fun v42 h43 => (rB (vFa 0 r13.1) fun v44 => (rB (vStore h43 1 v44 v42) fun r45 => (rC (stdy true 2 v38 h34 h37) (rB (vLdA r45.2 11 r13.1) fun v46 => (rB (vStore r45.2 11 r1.1 v46) fun r47 => (rB (vLdA r47.2 11 r1.1) fun v48 => (some (v48, r47.2)))))))))))))))))))))))))))))))))))))))))))))
theorem rp10 (C : Nat → List V → H → Rr) (k : Nat) : dn C k c10 (rQ10 C k) = fun e h => (rK10 C k (e 0) h) := by kernel_rfl
def F10 : RF := fun C k a h => match a with
  | [a0] => rK10 C k a0 h
  | _ => none
theorem ro10 : RunOK IP 10 F10 := ⟨ir10, ip10, by kernel_rfl, fun C k a h r e => by
  unfold F10 at e
  split at e
  · exact ⟨by kernel_rfl, (congrFun (congrFun (rp10 C k) _) h).trans e⟩
  · cases e⟩
theorem ip12 : IP 12 = some ir12 := rfl
def rQ12 (C : Nat → List V → H → Rr) (k : Nat) : X → E → H → Rr := Qrr rs12
def rQ12_1 (C : Nat → List V → H → Rr) (k : Nat) : X → E → H → Rr := (rQ12 C k)
def rS12_5 (C : Nat → List V → H → Rr) (k : Nat) : E → H → Rr := ((Qxr (dn C k .ret (rQ12_1 C k)) (rQ12_1 C k)) X.normal)
def rK12_5 (C : Nat → List V → H → Rr) (k : Nat) (x4 x34 x36 x38 : V) (h : H) : Rr := (rB (vPick x36 x38 (.b false)) fun v1 => (rB (vStore h 11 x4 x34) fun r2 => (rB (vLdA r2.2 11 x4) fun v3 => (some ((.tup [v3, v1]), r2.2)))))
def rJ12_5 (C : Nat → List V → H → Rr) (k : Nat) : E → H → Rr := fun e h => (rK12_5 C k (e 4) (e 34) (e 36) (e 38) h)
theorem rp12_5 (C : Nat → List V → H → Rr) (k : Nat) : dnOps C o12_2 (rS12_5 C k) = (rJ12_5 C k) := by
  refine Eq.trans (rapp_eq rfl rfl) ?_
  kernel_rfl
def rK12_1 (C : Nat → List V → H → Rr) (k : Nat) (x2 x4 x8 : V) (h : H) : Rr := (rB (vLdA h 9 x8) fun v1 => (rK (C 63 [v1] h) fun v2 h3 => (rB (vExt v2 0) fun v4 => (rB (vExt v2 1) fun v5 => (rB (vLdA h3 11 x2) fun v6 => (rG v5 true (rB (bin .eql v4 (.i .i64 0)) fun v7 => (rK12_5 C k x4 v6 v5 v7 h3)) (rK12_5 C k x4 v6 v5 undefV h3)))))))
def rJ12_1 (C : Nat → List V → H → Rr) (k : Nat) : E → H → Rr := fun e h => (rK12_1 C k (e 2) (e 4) (e 8) h)
theorem rp12_1 (C : Nat → List V → H → Rr) (k : Nat) : dn C k c12_1 (rQ12_1 C k) = (rJ12_1 C k) := by
  refine Eq.trans (rseq_eq (rseq_eq rfl (rregion_eq (rapp_eq (rgrp_eq2 36 true rfl (rp12_5 C k) rfl) rfl))) rfl) ?_
  kernel_rfl
def rR12_6 (C : Nat → List V → H → Rr) (k : Nat) : X → E → H → Rr := (Qbr 0 (Qxr (rJ12_1 C k) (rQ12 C k)))
def rQ12_6 (C : Nat → List V → H → Rr) (k : Nat) (g12_6 : V → V → V → V → H → Rr) : X → E → H → Rr := Qxr (fun e h => g12_6 (e 2) (e 4) (e 8) (e 9) h) (rR12_6 C k)
def rL12_6 (C : Nat → List V → H → Rr) (k : Nat) (g12_6 : V → V → V → V → H → Rr) (x2 x4 x8 x9 : V) (h : H) : Rr := (rB (bin .lss x9 (.i .i64 9)) fun v1 => (rS v1 (rB (vLdA h 9 x8) fun v2 => (rB (vFa 1 x2) fun v3 => (rB (vLd1 h v3) fun v4 => (rK (C 62 [v2, v4] h) fun v5 h6 => (rB (vStore h6 9 x8 v5) fun r7 => (rB (bin .add x9 (.i .i64 1)) fun v8 => (g12_6 x2 x4 x8 v8 r7.2))))))) (rK12_1 C k x2 x4 x8 h)))
theorem rp12_6 (C : Nat → List V → H → Rr) (k : Nat) (g12_6 : V → V → V → V → H → Rr) : dn C k c12_6 (rQ12_6 C k g12_6) = fun e h => (rL12_6 C k g12_6 (e 2) (e 4) (e 8) (e 9) h) := by kernel_rfl
def rW12_6 (C : Nat → List V → H → Rr) (k : Nat) (x2 x4 x8 x9 : V) (h : H) : Rr := rFix k (fun (g : V × V × V × V × Unit → H → Rr) (x : V × V × V × V × Unit) h => rL12_6 C k (fun y2 y4 y8 y9 h => g (y2, y4, y8, y9, ()) h) x.1 x.2.1 x.2.2.1 x.2.2.2.1 h) (x2, x4, x8, x9, ()) h
theorem rn12_6 (C : Nat → List V → H → Rr) (k : Nat) : ∀ g : V × V × V × V × Unit → H → Rr, dn C k c12_6 (Qxr (fun e h => g ((fun e : E => ((e 2, e 4, e 8, e 9, ()) : V × V × V × V × Unit)) e) h) (rR12_6 C k)) = fun e h => (fun (g : V × V × V × V × Unit → H → Rr) (x : V × V × V × V × Unit) h => rL12_6 C k (fun y2 y4 y8 y9 h => g (y2, y4, y8, y9, ()) h) x.1 x.2.1 x.2.2.1 x.2.2.2.1 h) g ((fun e : E => ((e 2, e 4, e 8, e 9, ()) : V × V × V × V × Unit)) e) h := fun g => rp12_6 C k (fun y2 y4 y8 y9 h => g (y2, y4, y8, y9, ()) h)
theorem rw12_6 (C : Nat → List V → H → Rr) (k : Nat) : dn C k (.loop c12_6) (rR12_6 C k) = fun e h => (rW12_6 C k (e 2) (e 4) (e 8) (e 9) h) := rloop_eq (fun e : E => ((e 2, e 4, e 8, e 9, ()) : V × V × V × V × Unit)) (fun (g : V × V × V × V × Unit → H → Rr) (x : V × V × V × V × Unit) h => rL12_6 C k (fun y2 y4 y8 y9 h => g (y2, y4, y8, y9, ()) h) x.1 x.2.1 x.2.2.1 x.2.2.2.1 h) (rn12_6 C k)
def rK12 (C : Nat → List V → H → Rr) (k : Nat) (x0 x1 : V) (h : H) : Rr := (rB (vBox x0 h) fun r1 => (rB (vBox x1 r1.2) fun r2 => (rB (some (.p (some (H.nx r2.2, 0)), H.new r2.2 ⟨false, [(.p none), (.p none), (.i .i64 0), (.i .i64 0), (.i .i64 0), (.i .i64 0), (.i .i64 0), (.i .i64 0), (.i .u64 0), (.i .u64 0), (.b false)]⟩)) fun r3 => (rB (vLdA r3.2 11 r2.1) fun v4 => (rK (C 60 [v4] r3.2) fun v5 h6 => (rB (vExt v5 0) fun v7 => (rB (vExt v5 1) fun v8 => (rB (some (.p (some (H.nx h6, 0)), H.new h6 ⟨false, [(.i .u64 0), (.i .u64 0), (.i .u64 0)]⟩)) fun r9 => (rB (vStore r9.2 3 r9.1 v7) fun r10 => (rB (vFa 2 r1.1) fun v11 => (rB (vLdA r10.2 2 v11) fun v12 => (rB (vLdA r10.2 3 r9.1) fun v13 => (rK (C 61 [v12, v13] r10.2) fun v14 h15 => (rB (some (.p (some (H.nx h15, 0)), H.new h15 ⟨false, [(.i .i64 0), (.i .i64 0), (.i .u64 0), (.i .u64 0), (.i .u64 0), (.i .u64 0), (.i .i64 0), (.b false), (.b false)]⟩)) fun r16 => (rB (vStore r16.2 9 r16.1 v14) fun r17 => (rW12_6 C k r1.1 r3.1 r16.1 (.i .i64 0) r17.2))))))))))))))))
theorem rp12 (C : Nat → List V → H → Rr) (k : Nat) : dn C k c12 (rQ12 C k) = fun e h => (rK12 C k (e 0) (e 1) h) := by
  refine Eq.trans (rseq_eq (rseq_eq (rseq_eq (rseq_eq (rp12_1 C k) (rseq_eq (rblock_eq (rw12_6 C k)) rfl)) rfl) rfl) rfl) ?_
  kernel_rfl
def F12 : RF := fun C k a h => match a with
  | [a0, a1] => rK12 C k a0 a1 h
  | _ => none
theorem ro12 : RunOK IP 12 F12 := ⟨ir12, ip12, by kernel_rfl, fun C k a h r e => by
  unfold F12 at e
  split at e
  · exact ⟨by kernel_rfl, (congrFun (congrFun (rp12 C k) _) h).trans e⟩
  · cases e⟩
theorem ip13 : IP 13 = some ir13 := rfl
def rQ13 (C : Nat → List V → H → Rr) (k : Nat) : X → E → H → Rr := Qrr rs13
def rQ13_1 (C : Nat → List V → H → Rr) (k : Nat) : X → E → H → Rr := (rQ13 C k)
def rK13_1 (C : Nat → List V → H → Rr) (k : Nat) (x2 x4 : V) (h : H) : Rr := (rB (vLdA h 11 x2) fun v1 => (rB (vStore h 11 x4 v1) fun r2 => (rB (vLdA r2.2 11 x4) fun v3 => (some (v3, r2.2)))))
def rJ13_1 (C : Nat → List V → H → Rr) (k : Nat) : E → H → Rr := fun e h => (rK13_1 C k (e 2) (e 4) h)
theorem rp13_1 (C : Nat → List V → H → Rr) (k : Nat) : dn C k c13_1 (rQ13_1 C k) = (rJ13_1 C k) := by kernel_rfl
def rR13_2 (C : Nat → List V → H → Rr) (k : Nat) : X → E → H → Rr := (Qbr 0 (Qxr (rJ13_1 C k) (rQ13 C k)))
def rQ13_2 (C : Nat → List V → H → Rr) (k : Nat) (g13_2 : V → V → V → V → H → Rr) : X → E → H → Rr := Qxr (fun e h => g13_2 (e 1) (e 2) (e 4) (e 5) h) (rR13_2 C k)
def rQ13_3 (C : Nat → List V → H → Rr) (k : Nat) (g13_2 : V → V → V → V → H → Rr) : X → E → H → Rr := (rQ13_2 C k g13_2)
def rK13_3 (C : Nat → List V → H → Rr) (k : Nat) (g13_2 : V → V → V → V → H → Rr) (x1 x2 x4 x5 : V) (h : H) : Rr := (rB (bin .add x5 (.i .i64 1)) fun v1 => (g13_2 x1 x2 x4 v1 h))
def rJ13_3 (C : Nat → List V → H → Rr) (k : Nat) (g13_2 : V → V → V → V → H → Rr) : E → H → Rr := fun e h => (rK13_3 C k g13_2 (e 1) (e 2) (e 4) (e 5) h)
theorem rp13_3 (C : Nat → List V → H → Rr) (k : Nat) (g13_2 : V → V → V → V → H → Rr) : dn C k c13_3 (rQ13_3 C k g13_2) = (rJ13_3 C k g13_2) := by kernel_rfl
def rS13_7 (C : Nat → List V → H → Rr) (k : Nat) (g13_2 : V → V → V → V → H → Rr) : E → H → Rr := ((Qbr 1 (Qxr (rJ13_3 C k g13_2) (rQ13_2 C k g13_2))) X.normal)
def rK13_7 (C : Nat → List V → H → Rr) (k : Nat) (g13_2 : V → V → V → V → H → Rr) (x1 x2 x4 x5 x21 x26 : V) (h : H) : Rr := (rB (vPick x21 x26 (.b false)) fun v1 => (rB (vFa 10 x2) fun v2 => (rB (vStore h 1 v2 v1) fun r3 => (rK13_3 C k g13_2 x1 x2 x4 x5 r3.2))))
def rJ13_7 (C : Nat → List V → H → Rr) (k : Nat) (g13_2 : V → V → V → V → H → Rr) : E → H → Rr := fun e h => (rK13_7 C k g13_2 (e 1) (e 2) (e 4) (e 5) (e 21) (e 26) h)
theorem rp13_7 (C : Nat → List V → H → Rr) (k : Nat) (g13_2 : V → V → V → V → H → Rr) : dnOps C o13_4 (rS13_7 C k g13_2) = (rJ13_7 C k g13_2) := by
  refine Eq.trans (rapp_eq rfl rfl) ?_
  kernel_rfl
def rL13_2 (C : Nat → List V → H → Rr) (k : Nat) (g13_2 : V → V → V → V → H → Rr) (x1 x2 x4 x5 : V) (h : H) : Rr := (rB (bin .lss x5 x1) fun v1 => (rS v1 (rB (vFa 1 x2) fun v2 => (rB (vLd1 h v2) fun v3 => (rK (C 64 [v3] h) fun v4 h5 => (rB (vFa 0 x2) fun v6 => (rB (vLd1 h5 v6) fun v7 => (rB (vFa 1 x2) fun v8 => (rB (vLd1 h5 v8) fun v9 => (rK (C 22 [v7, v9] h5) fun v10 h11 => (rB (vFa 10 x2) fun v12 => (rB (vLd1 h11 v12) fun v13 => (rG v13 true (rB (vFa 1 x2) fun v14 => (rB (vLd1 h11 v14) fun v15 => (rK (C 26 [v15] h11) fun v16 h17 => (rB (vLens v16) fun v18 => (rB (bin .leq v18 (.i .i64 1)) fun v19 => (rK13_7 C k g13_2 x1 x2 x4 x5 v13 v19 h17)))))) (rK13_7 C k g13_2 x1 x2 x4 x5 v13 undefV h11)))))))))))) (rK13_1 C k x2 x4 h)))
theorem rp13_2 (C : Nat → List V → H → Rr) (k : Nat) (g13_2 : V → V → V → V → H → Rr) : dn C k c13_2 (rQ13_2 C k g13_2) = fun e h => (rL13_2 C k g13_2 (e 1) (e 2) (e 4) (e 5) h) := by
  refine Eq.trans (rseq_eq (rseq_eq (rp13_3 C k g13_2) (rblock_eq (rseq_eq (rseq_eq (rregion_eq (rapp_eq (rgrp_eq2 21 true rfl (rp13_7 C k g13_2) rfl) rfl)) rfl) rfl))) rfl) ?_
  kernel_rfl
def rW13_2 (C : Nat → List V → H → Rr) (k : Nat) (x1 x2 x4 x5 : V) (h : H) : Rr := rFix k (fun (g : V × V × V × V × Unit → H → Rr) (x : V × V × V × V × Unit) h => rL13_2 C k (fun y1 y2 y4 y5 h => g (y1, y2, y4, y5, ()) h) x.1 x.2.1 x.2.2.1 x.2.2.2.1 h) (x1, x2, x4, x5, ()) h
theorem rn13_2 (C : Nat → List V → H → Rr) (k : Nat) : ∀ g : V × V × V × V × Unit → H → Rr, dn C k c13_2 (Qxr (fun e h => g ((fun e : E => ((e 1, e 2, e 4, e 5, ()) : V × V × V × V × Unit)) e) h) (rR13_2 C k)) = fun e h => (fun (g : V × V × V × V × Unit → H → Rr) (x : V × V × V × V × Unit) h => rL13_2 C k (fun y1 y2 y4 y5 h => g (y1, y2, y4, y5, ()) h) x.1 x.2.1 x.2.2.1 x.2.2.2.1 h) g ((fun e : E => ((e 1, e 2, e 4, e 5, ()) : V × V × V × V × Unit)) e) h := fun g => rp13_2 C k (fun y1 y2 y4 y5 h => g (y1, y2, y4, y5, ()) h)
theorem rw13_2 (C : Nat → List V → H → Rr) (k : Nat) : dn C k (.loop c13_2) (rR13_2 C k) = fun e h => (rW13_2 C k (e 1) (e 2) (e 4) (e 5) h) := rloop_eq (fun e : E => ((e 1, e 2, e 4, e 5, ()) : V × V × V × V × Unit)) (fun (g : V × V × V × V × Unit → H → Rr) (x : V × V × V × V × Unit) h => rL13_2 C k (fun y1 y2 y4 y5 h => g (y1, y2, y4, y5, ()) h) x.1 x.2.1 x.2.2.1 x.2.2.2.1 h) (rn13_2 C k)
def rK13 (C : Nat → List V → H → Rr) (k : Nat) (x0 x1 : V) (h : H) : Rr := (rB (vBox x0 h) fun r1 => (rB (some (.p (some (H.nx r1.2, 0)), H.new r1.2 ⟨false, [(.p none), (.p none), (.i .i64 0), (.i .i64 0), (.i .i64 0), (.i .i64 0), (.i .i64 0), (.i .i64 0), (.i .u64 0), (.i .u64 0), (.b false)]⟩)) fun r2 => (rW13_2 C k x1 r1.1 r2.1 (.i .i64 0) r2.2)))
theorem rp13 (C : Nat → List V → H → Rr) (k : Nat) : dn C k c13 (rQ13 C k) = fun e h => (rK13 C k (e 0) (e 1) h) := by
  refine Eq.trans (rseq_eq (rseq_eq (rp13_1 C k) (rseq_eq (rblock_eq (rw13_2 C k)) rfl)) rfl) ?_
  kernel_rfl
def F13 : RF := fun C k a h => match a with
  | [a0, a1] => rK13 C k a0 a1 h
  | _ => none
theorem ro13 : RunOK IP 13 F13 := ⟨ir13, ip13, by kernel_rfl, fun C k a h r e => by
  unfold F13 at e
  split at e
  · exact ⟨by kernel_rfl, (congrFun (congrFun (rp13 C k) _) h).trans e⟩
  · cases e⟩
theorem ip14 : IP 14 = some ir14 := rfl
def Q14 [q : Hid (V → H → Prop)] : X → E → H → Prop := Qr rs14 q.un
def K14 (x0 : V) (h : H) [q : Hid (V → H → Prop)] : Prop := @Bnd V (vEqz false .p x0 (.p none)) ⟨fun v1 => @Sel v1 ⟨@Hid.un (V → H → Prop) q (.p none) h⟩ ⟨@Bnd V (vNilc x0) ⟨fun v2 => @Bnd V (vFa 0 v2) ⟨fun v3 => @Bnd V (vLd1 h v3) ⟨fun v4 => @Hid.un (V → H → Prop) q v4 h⟩⟩⟩⟩⟩
theorem p14 [q : Hid (V → H → Prop)] : den IP c14 (@Q14 q) = fun e h => @K14 (e 0) h q := by kernel_rfl
theorem f14 (a0 : V) (h : H) (Q : V → H → Prop) : @wF IP 14 [a0] h ⟨Q⟩ ↔ @K14 a0 h ⟨Q⟩ := (Fnc_den (ip14) (by kernel_rfl) (by kernel_rfl) h Q).trans (iff_of_eq (congrFun (congrFun (@p14 ⟨Q⟩) _) h))
def rQ14 (C : Nat → List V → H → Rr) (k : Nat) : X → E → H → Rr := Qrr rs14
def rK14 (C : Nat → List V → H → Rr) (k : Nat) (x0 : V) (h : H) : Rr := (rB (vEqz false .p x0 (.p none)) fun v1 => (rS v1 (some ((.p none), h)) (rB (vNilc x0) fun v2 => (rB (vFa 0 v2) fun v3 => (rB (vLd1 h v3) fun v4 => (some (v4, h)))))))
theorem rp14 (C : Nat → List V → H → Rr) (k : Nat) : dn C k c14 (rQ14 C k) = fun e h => (rK14 C k (e 0) h) := by kernel_rfl
def F14 : RF := fun C k a h => match a with
  | [a0] => rK14 C k a0 h
  | _ => none
theorem ro14 : RunOK IP 14 F14 := ⟨ir14, ip14, by kernel_rfl, fun C k a h r e => by
  unfold F14 at e
  split at e
  · exact ⟨by kernel_rfl, (congrFun (congrFun (rp14 C k) _) h).trans e⟩
  · cases e⟩
theorem ip16 : IP 16 = some ir16 := rfl
def rQ16 (C : Nat → List V → H → Rr) (k : Nat) : X → E → H → Rr := Qrr rs16
def rQ16_1 (C : Nat → List V → H → Rr) (k : Nat) : X → E → H → Rr := (rQ16 C k)
def rQ16_2 (C : Nat → List V → H → Rr) (k : Nat) : X → E → H → Rr := (rQ16_1 C k)
def rK16_2 (C : Nat → List V → H → Rr) (k : Nat) (x12 : V) (h : H) : Rr := (some (x12, h))
def rJ16_2 (C : Nat → List V → H → Rr) (k : Nat) : E → H → Rr := fun e h => (rK16_2 C k (e 12) h)
theorem rp16_2 (C : Nat → List V → H → Rr) (k : Nat) : dn C k c16_2 (rQ16_2 C k) = (rJ16_2 C k) := by kernel_rfl
def rK16_1 (C : Nat → List V → H → Rr) (k : Nat) (x0 x1 x2 : V) (h : H) : Rr := (rB (vNilc x0) fun v1 => (rB (vFa 4 v1) fun v2 => (rB (vLd1 h v2) fun v3 => (rB (vIa 1 v3 x1) fun v4 => (rB (vLd1 h v4) fun v5 => (rK (C 66 [v5] h) fun v6 h7 => (rB (vExt v6 0) fun v8 => (rB (vExt v6 1) fun v9 => (rB (some (.p (some (H.nx h7, 0)), H.new h7 ⟨false, [(.i .i64 0), (.i .i64 0), (.i .i64 0), (.i .i64 0), (.i .i64 0), (.i .u32 0), (.i .i64 0), (.b false), (.b false), (.i .i64 0), (.i .u32 0)]⟩)) fun r10 => (rB (vStore r10.2 11 r10.1 v8) fun r11 => (rB (un .not v9) fun v12 => (rS v12 (rB (vNilc x0) fun v13 => (rB (vFa 0 v13) fun v14 => (rB (vFa 3 v14) fun v15 => (rB (vLd1 r11.2 v15) fun v16 => (rK (C 67 [v5, v16] r11.2) fun v17 h18 => (rB (un .not v17) fun v19 => (rS v19 (some ((.b false), h18)) (rK (C 66 [v5] h18) fun v20 h21 => (rB (vExt v20 0) fun v22 => (rB (vExt v20 1) fun v23 => (rB (vStore h21 11 r10.1 v22) fun r24 => (rB (vNilc x0) fun v25 => (rB (vFa 11 v25) fun v26 => (rB (vLd1 r24.2 v26) fun v27 => (rB (vLdA r24.2 11 r10.1) fun v28 => (rB (vNewSl 1 [(.i .i64 0), (.i .i64 0), (.i .i64 0), (.i .i64 0), (.i .i64 0), (.i .u32 0), (.i .i64 0), (.b false), (.b false), (.i .i64 0), (.i .u32 0)] [(0, 11, v28)] r24.2) fun r29 => (rB (vApp 11 80 v27 r29.1 r29.2) fun r30 => (rB (vNilc x0) fun v31 => (rB (vFa 11 v31) fun v32 => (rB (vStore r30.2 1 v32 r30.1) fun r33 => (some ((.b true), r33.2)))))))))))))))))))))) (rB (vFa 1 r10.1) fun v34 => (rB (vLd1 r11.2 v34) fun v35 => (rB (vNilc x0) fun v36 => (rB (vFa 7 v36) fun v37 => (rB (vIaa 1 4 v37 v35) fun v38 => (rB (vLd1 r11.2 v38) fun v39 => (rB (vLens v39) fun v40 => (rB (bin .geq v40 (.i .i64 32)) fun v41 => (rS v41 (some ((.b false), r11.2)) (rB (vNilc x0) fun v42 => (rB (vFa 6 v42) fun v43 => (rB (vLd1 r11.2 v43) fun v44 => (rK (C 68 [v5, x2, v44] r11.2) fun v45 h46 => (rB (vExt v45 0) fun v47 => (rB (vExt v45 1) fun v48 => (rB (vExt v45 2) fun v49 => (rB (some (.p (some (H.nx h46, 0)), H.new h46 ⟨false, [(.i .i64 0), (.i .i64 0), (.i .i64 0), (.i .i64 0), (.i .i64 0), (.i .u32 0), (.i .i64 0), (.b false), (.b false), (.i .i64 0), (.i .u32 0)]⟩)) fun r50 => (rB (vStore r50.2 11 r50.1 v47) fun r51 => (rB (vNilc x0) fun v52 => (rB (vFa 6 v52) fun v53 => (rB (vStore r51.2 1 v53 v48) fun r54 => (rS v49 (rB (vLdA r54.2 11 r50.1) fun v55 => (rK (C 69 [x0, v55] r54.2) fun v56 h57 => (rB (vLdA h57 11 r50.1) fun v58 => (rK (C 70 [x0, v58] h57) fun v59 h60 => (rK16_2 C k v49 h60))))) (rK16_2 C k v49 r54.2)))))))))))))))))))))))))))))))))))
def rJ16_1 (C : Nat → List V → H → Rr) (k : Nat) : E → H → Rr := fun e h => (rK16_1 C k (e 0) (e 1) (e 2) h)
theorem rp16_1 (C : Nat → List V → H → Rr) (k : Nat) : dn C k c16_1 (rQ16_1 C k) = (rJ16_1 C k) := by
  refine Eq.trans (rseq_eq (rseq_eq (rseq_eq (rseq_eq (rseq_eq (rseq_eq (rseq_eq (rp16_2 C k) rfl) rfl) rfl) rfl) rfl) rfl) rfl) ?_
  kernel_rfl
def rQ16_3 (C : Nat → List V → H → Rr) (k : Nat) : X → E → H → Rr := (Qxr (rJ16_1 C k) (rQ16 C k))
def rK16_3 (C : Nat → List V → H → Rr) (k : Nat) (x0 x1 x2 x27 : V) (h : H) : Rr := (rS x27 (some ((.b false), h)) (rK16_1 C k x0 x1 x2 h))
def rJ16_3 (C : Nat → List V → H → Rr) (k : Nat) : E → H → Rr := fun e h => (rK16_3 C k (e 0) (e 1) (e 2) (e 27) h)
theorem rp16_3 (C : Nat → List V → H → Rr) (k : Nat) : dn C k c16_3 (rQ16_3 C k) = (rJ16_3 C k) := by kernel_rfl
def rS16_9 (C : Nat → List V → H → Rr) (k : Nat) : E → H → Rr := ((Qxr (rJ16_3 C k) (Qxr (rJ16_1 C k) (rQ16 C k))) X.normal)
def rK16_9 (C : Nat → List V → H → Rr) (k : Nat) (x0 x1 x2 x19 x26 : V) (h : H) : Rr := (rB (vPick x19 (.b true) x26) fun v1 => (rK16_3 C k x0 x1 x2 v1 h))
def rJ16_9 (C : Nat → List V → H → Rr) (k : Nat) : E → H → Rr := fun e h => (rK16_9 C k (e 0) (e 1) (e 2) (e 19) (e 26) h)
theorem rp16_9 (C : Nat → List V → H → Rr) (k : Nat) : dnOps C o16_4 (rS16_9 C k) = (rJ16_9 C k) := by
  refine Eq.trans (rapp_eq rfl rfl) ?_
  kernel_rfl
def rS16_10 (C : Nat → List V → H → Rr) (k : Nat) : E → H → Rr := ((Qxr (rJ16_3 C k) (Qxr (rJ16_1 C k) (rQ16 C k))) X.normal)
def rK16_10 (C : Nat → List V → H → Rr) (k : Nat) (x0 x1 x2 x15 x17 : V) (h : H) : Rr := (rB (vPick x15 (.b true) x17) fun v1 => (rG v1 false (rB (vNilc x0) fun v2 => (rB (vFa 4 v2) fun v3 => (rB (vLd1 h v3) fun v4 => (rB (vLens v4) fun v5 => (rB (bin .geq x1 v5) fun v6 => (rK16_9 C k x0 x1 x2 v1 v6 h)))))) (rK16_9 C k x0 x1 x2 v1 undefV h)))
def rJ16_10 (C : Nat → List V → H → Rr) (k : Nat) : E → H → Rr := fun e h => (rK16_10 C k (e 0) (e 1) (e 2) (e 15) (e 17) h)
theorem rp16_10 (C : Nat → List V → H → Rr) (k : Nat) : dnOps C o16_6 (rS16_10 C k) = (rJ16_10 C k) := by
  refine Eq.trans (rapp_eq (rgrp_eq2 19 false rfl (rp16_9 C k) rfl) rfl) ?_
  kernel_rfl
def rK16 (C : Nat → List V → H → Rr) (k : Nat) (x0 x1 x2 : V) (h : H) : Rr := (rB (vEqz false .p x0 (.p none)) fun v1 => (rG v1 false (rB (bin .lss x1 (.i .i64 0)) fun v2 => (rK16_10 C k x0 x1 x2 v1 v2 h)) (rK16_10 C k x0 x1 x2 v1 undefV h)))
theorem rp16 (C : Nat → List V → H → Rr) (k : Nat) : dn C k c16 (rQ16 C k) = fun e h => (rK16 C k (e 0) (e 1) (e 2) h) := by
  refine Eq.trans (rseq_eq (rseq_eq (rp16_1 C k) (rseq_eq (rp16_3 C k) (rregion_eq (rapp_eq (rgrp_eq2 15 false rfl (rp16_10 C k) rfl) rfl)))) rfl) ?_
  kernel_rfl
def F16 : RF := fun C k a h => match a with
  | [a0, a1, a2] => rK16 C k a0 a1 a2 h
  | _ => none
theorem ro16 : RunOK IP 16 F16 := ⟨ir16, ip16, by kernel_rfl, fun C k a h r e => by
  unfold F16 at e
  split at e
  · exact ⟨by kernel_rfl, (congrFun (congrFun (rp16 C k) _) h).trans e⟩
  · cases e⟩
theorem ip18 : IP 18 = some ir18 := rfl
def rQ18 (C : Nat → List V → H → Rr) (k : Nat) : X → E → H → Rr := Qrr rs18
def rQ18_1 (C : Nat → List V → H → Rr) (k : Nat) : X → E → H → Rr := (rQ18 C k)
def rK18_1 (C : Nat → List V → H → Rr) (k : Nat) (x1 x2 x4 x5 x7 : V) (h : H) : Rr := (rB (vLdA h 8 x7) fun v1 => (rK (C 74 [v1] h) fun v2 h3 => (rB (vExt v2 0) fun v4 => (rB (vExt v2 1) fun v5 => (rB (bin .neq v4 (.i .i64 0)) fun v6 => (rS v6 (rB (vLdA h3 11 x2) fun v7 => (rB (vBld [(.i .i64 0), (.i .i64 0), (.i .i64 0), (.i .i64 0), (.i .i64 0), (.i .u32 0), (.i .i64 0), (.b false), (.b false), (.i .i64 0), (.i .u32 0)] []) fun v8 => (rB (vStore h3 11 x4 v7) fun r9 => (rB (vStore r9.2 11 x5 v8) fun r10 => (rB (vLdA r10.2 11 x4) fun v11 => (rB (vLdA r10.2 11 x5) fun v12 => (some ((.tup [v11, v12, (.b false)]), r10.2)))))))) (rB (vFa 8 x2) fun v13 => (rB (vIaa 1 2 v13 x1) fun v14 => (rB (vLd1 h3 v14) fun v15 => (rB (bin .add v15 (.i .u64 1)) fun v16 => (rB (vFa 8 x2) fun v17 => (rB (vIaa 1 2 v17 x1) fun v18 => (rB (vStore h3 1 v18 v16) fun r19 => (rB (vLdA r19.2 8 x7) fun v20 => (rK (C 76 [v20] r19.2) fun v21 h22 => (rK (C 75 [v21] h22) fun v23 h24 => (rB (vExt v23 0) fun v25 => (rB (vExt v23 1) fun v26 => (rB (some (.p (some (H.nx h24, 0)), H.new h24 ⟨false, [(.i .i64 0), (.i .i64 0), (.i .i64 0), (.i .i64 0), (.i .i64 0), (.i .u32 0), (.i .i64 0), (.b false), (.b false), (.i .i64 0), (.i .u32 0)]⟩)) fun r27 => (rB (vStore r27.2 11 r27.1 v25) fun r28 => (rB (vLdA r28.2 11 x2) fun v29 => (rB (vLdA r28.2 11 r27.1) fun v30 => (rB (bin .eql v26 (.i .i64 0)) fun v31 => (rB (vStore r28.2 11 x4 v29) fun r32 => (rB (vStore r32.2 11 x5 v30) fun r33 => (rC (stdy true 11 r27.1 r28.2 r32.2) (rB (vLdA r33.2 11 x4) fun v34 => (rB (vLdA r33.2 11 x5) fun v35 => (some ((.tup [v34, v35, v31]), r33.2))))))))))))))))))))))))))))))
def rJ18_1 (C : Nat → List V → H → Rr) (k : Nat) : E → H → Rr := fun e h => (rK18_1 C k (e 1) (e 2) (e 4) (e 5) (e 7) h)
theorem rp18_1 (C : Nat → List V → H → Rr) (k : Nat) : dn C k c18_1 (rQ18_1 C k) = (rJ18_1 C k) := by kernel_rfl
def rR18_2 (C : Nat → List V → H → Rr) (k : Nat) : X → E → H → Rr := (Qbr 0 (Qxr (rJ18_1 C k) (rQ18 C k)))
def rQ18_2 (C : Nat → List V → H → Rr) (k : Nat) (g18_2 : V → V → V → V → V → V → H → Rr) : X → E → H → Rr := Qxr (fun e h => g18_2 (e 1) (e 2) (e 4) (e 5) (e 7) (e 8) h) (rR18_2 C k)
def rL18_2 (C : Nat → List V → H → Rr) (k : Nat) (g18_2 : V → V → V → V → V → V → H → Rr) (x1 x2 x4 x5 x7 x8 : V) (h : H) : Rr := (rB (bin .lss x8 (.i .i64 6)) fun v1 => (rS v1 (rB (vLdA h 8 x7) fun v2 => (rB (vFa 1 x2) fun v3 => (rB (vLd1 h v3) fun v4 => (rK (C 73 [v2, v4] h) fun v5 h6 => (rB (vStore h6 8 x7 v5) fun r7 => (rB (bin .add x8 (.i .i64 1)) fun v8 => (g18_2 x1 x2 x4 x5 x7 v8 r7.2))))))) (rK18_1 C k x1 x2 x4 x5 x7 h)))
theorem rp18_2 (C : Nat → List V → H → Rr) (k : Nat) (g18_2 : V → V → V → V → V → V → H → Rr) : dn C k c18_2 (rQ18_2 C k g18_2) = fun e h => (rL18_2 C k g18_2 (e 1) (e 2) (e 4) (e 5) (e 7) (e 8) h) := by kernel_rfl
def rW18_2 (C : Nat → List V → H → Rr) (k : Nat) (x1 x2 x4 x5 x7 x8 : V) (h : H) : Rr := rFix k (fun (g : V × V × V × V × V × V × Unit → H → Rr) (x : V × V × V × V × V × V × Unit) h => rL18_2 C k (fun y1 y2 y4 y5 y7 y8 h => g (y1, y2, y4, y5, y7, y8, ()) h) x.1 x.2.1 x.2.2.1 x.2.2.2.1 x.2.2.2.2.1 x.2.2.2.2.2.1 h) (x1, x2, x4, x5, x7, x8, ()) h
theorem rn18_2 (C : Nat → List V → H → Rr) (k : Nat) : ∀ g : V × V × V × V × V × V × Unit → H → Rr, dn C k c18_2 (Qxr (fun e h => g ((fun e : E => ((e 1, e 2, e 4, e 5, e 7, e 8, ()) : V × V × V × V × V × V × Unit)) e) h) (rR18_2 C k)) = fun e h => (fun (g : V × V × V × V × V × V × Unit → H → Rr) (x : V × V × V × V × V × V × Unit) h => rL18_2 C k (fun y1 y2 y4 y5 y7 y8 h => g (y1, y2, y4, y5, y7, y8, ()) h) x.1 x.2.1 x.2.2.1 x.2.2.2.1 x.2.2.2.2.1 x.2.2.2.2.2.1 h) g ((fun e : E => ((e 1, e 2, e 4, e 5, e 7, e 8, ()) : V × V × V × V × V × V × Unit)) e) h := fun g => rp18_2 C k (fun y1 y2 y4 y5 y7 y8 h => g (y1, y2, y4, y5, y7, y8, ()) h)
theorem rw18_2 (C : Nat → List V → H → Rr) (k : Nat) : dn C k (.loop c18_2) (rR18_2 C k) = fun e h => (rW18_2 C k (e 1) (e 2) (e 4) (e 5) (e 7) (e 8) h) := rloop_eq (fun e : E => ((e 1, e 2, e 4, e 5, e 7, e 8, ()) : V × V × V × V × V × V × Unit)) (fun (g : V × V × V × V × V × V × Unit → H → Rr) (x : V × V × V × V × V × V × Unit) h => rL18_2 C k (fun y1 y2 y4 y5 y7 y8 h => g (y1, y2, y4, y5, y7, y8, ()) h) x.1 x.2.1 x.2.2.1 x.2.2.2.1 x.2.2.2.2.1 x.2.2.2.2.2.1 h) (rn18_2 C k)
def rK18 (C : Nat → List V → H → Rr) (k : Nat) (x0 x1 : V) (h : H) : Rr := (rB (vBox x0 h) fun r1 => (rB (some (.p (some (H.nx r1.2, 0)), H.new r1.2 ⟨false, [(.p none), (.p none), (.i .i64 0), (.i .i64 0), (.i .i64 0), (.i .i64 0), (.i .i64 0), (.i .i64 0), (.i .u64 0), (.i .u64 0), (.b false)]⟩)) fun r2 => (rB (some (.p (some (H.nx r2.2, 0)), H.new r2.2 ⟨false, [(.i .i64 0), (.i .i64 0), (.i .i64 0), (.i .i64 0), (.i .i64 0), (.i .u32 0), (.i .i64 0), (.b false), (.b false), (.i .i64 0), (.i .u32 0)]⟩)) fun r3 => (rB (vFa 4 r1.1) fun v4 => (rB (vIaa 2 2 v4 x1) fun v5 => (rB (vLdA r3.2 2 v5) fun v6 => (rB (vFa 8 r1.1) fun v7 => (rB (vIaa 1 2 v7 x1) fun v8 => (rB (vLd1 r3.2 v8) fun v9 => (rK (C 72 [v6, v9] r3.2) fun v10 h11 => (rB (some (.p (some (H.nx h11, 0)), H.new h11 ⟨false, [(.i .i64 0), (.i .i64 0), (.i .u64 0), (.i .u64 0), (.i .u64 0), (.i .u64 0), (.i .i64 0), (.b false)]⟩)) fun r12 => (rB (vStore r12.2 8 r12.1 v10) fun r13 => (rW18_2 C k x1 r1.1 r2.1 r3.1 r12.1 (.i .i64 0) r13.2)))))))))))))
theorem rp18 (C : Nat → List V → H → Rr) (k : Nat) : dn C k c18 (rQ18 C k) = fun e h => (rK18 C k (e 0) (e 1) h) := by
  refine Eq.trans (rseq_eq (rseq_eq (rseq_eq (rp18_1 C k) (rseq_eq (rblock_eq (rw18_2 C k)) rfl)) rfl) rfl) ?_
  kernel_rfl
def F18 : RF := fun C k a h => match a with
  | [a0, a1] => rK18 C k a0 a1 h
  | _ => none
theorem ro18 : RunOK IP 18 F18 := ⟨ir18, ip18, by kernel_rfl, fun C k a h r e => by
  unfold F18 at e
  split at e
  · exact ⟨by kernel_rfl, (congrFun (congrFun (rp18 C k) _) h).trans e⟩
  · cases e⟩
theorem ip19 : IP 19 = some ir19 := rfl
def rQ19 (C : Nat → List V → H → Rr) (k : Nat) : X → E → H → Rr := Qrr rs19
def rS19_12 (C : Nat → List V → H → Rr) (k : Nat) : E → H → Rr := ((Qxr (dn C k .ret (rQ19 C k)) (rQ19 C k)) X.normal)
def rK19_12 (C : Nat → List V → H → Rr) (k : Nat) (x45 x48 : V) (h : H) : Rr := (rB (vPick x45 x48 (.b false)) fun v1 => (some (v1, h)))
def rJ19_12 (C : Nat → List V → H → Rr) (k : Nat) : E → H → Rr := fun e h => (rK19_12 C k (e 45) (e 48) h)
theorem rp19_12 (C : Nat → List V → H → Rr) (k : Nat) : dnOps C o19_1 (rS19_12 C k) = (rJ19_12 C k) := by
  refine Eq.trans (rapp_eq rfl rfl) ?_
  kernel_rfl
def rS19_13 (C : Nat → List V → H → Rr) (k : Nat) : E → H → Rr := ((Qxr (dn C k .ret (rQ19 C k)) (rQ19 C k)) X.normal)
def rK19_13 (C : Nat → List V → H → Rr) (k : Nat) (x5 x40 x43 : V) (h : H) : Rr := (rB (vPick x40 x43 (.b false)) fun v1 => (rG v1 true (rB (vFa 10 x5) fun v2 => (rB (vLd1 h v2) fun v3 => (rB (bin .eql v3 (.i .u32 6)) fun v4 => (rK19_12 C k v1 v4 h)))) (rK19_12 C k v1 undefV h)))
def rJ19_13 (C : Nat → List V → H → Rr) (k : Nat) : E → H → Rr := fun e h => (rK19_13 C k (e 5) (e 40) (e 43) h)
theorem rp19_13 (C : Nat → List V → H → Rr) (k : Nat) : dnOps C o19_3 (rS19_13 C k) = (rJ19_13 C k) := by
  refine Eq.trans (rapp_eq (rgrp_eq2 45 true rfl (rp19_12 C k) rfl) rfl) ?_
  kernel_rfl
def rS19_14 (C : Nat → List V → H → Rr) (k : Nat) : E → H → Rr := ((Qxr (dn C k .ret (rQ19 C k)) (rQ19 C k)) X.normal)
def rK19_14 (C : Nat → List V → H → Rr) (k : Nat) (x5 x37 x38 : V) (h : H) : Rr := (rB (vPick x37 x38 (.b false)) fun v1 => (rG v1 true (rB (vFa 0 x5) fun v2 => (rB (vLd1 h v2) fun v3 => (rB (bin .eql v3 (.i .i64 2)) fun v4 => (rK19_13 C k x5 v1 v4 h)))) (rK19_13 C k x5 v1 undefV h)))
def rJ19_14 (C : Nat → List V → H → Rr) (k : Nat) : E → H → Rr := fun e h => (rK19_14 C k (e 5) (e 37) (e 38) h)
theorem rp19_14 (C : Nat → List V → H → Rr) (k : Nat) : dnOps C o19_5 (rS19_14 C k) = (rJ19_14 C k) := by
  refine Eq.trans (rapp_eq (rgrp_eq2 40 true rfl (rp19_13 C k) rfl) rfl) ?_
  kernel_rfl
def rS19_15 (C : Nat → List V → H → Rr) (k : Nat) : E → H → Rr := ((Qxr (dn C k .ret (rQ19 C k)) (rQ19 C k)) X.normal)
def rK19_15 (C : Nat → List V → H → Rr) (k : Nat) (x5 x6 x34 x35 : V) (h : H) : Rr := (rB (vPick x34 x35 (.b false)) fun v1 => (rG v1 true (rK19_14 C k x5 v1 x6 h) (rK19_14 C k x5 v1 undefV h)))
def rJ19_15 (C : Nat → List V → H → Rr) (k : Nat) : E → H → Rr := fun e h => (rK19_15 C k (e 5) (e 6) (e 34) (e 35) h)
theorem rp19_15 (C : Nat → List V → H → Rr) (k : Nat) : dnOps C o19_7 (rS19_15 C k) = (rJ19_15 C k) := by
  refine Eq.trans (rapp_eq (rgrp_eq2 37 true rfl (rp19_14 C k) rfl) rfl) ?_
  kernel_rfl
def rS19_16 (C : Nat → List V → H → Rr) (k : Nat) : E → H → Rr := ((Qxr (dn C k .ret (rQ19 C k)) (rQ19 C k)) X.normal)
def rK19_16 (C : Nat → List V → H → Rr) (k : Nat) (x4 x5 x6 x31 x32 : V) (h : H) : Rr := (rB (vPick x31 x32 (.b false)) fun v1 => (rG v1 true (rK19_15 C k x5 x6 v1 x4 h) (rK19_15 C k x5 x6 v1 undefV h)))
def rJ19_16 (C : Nat → List V → H → Rr) (k : Nat) : E → H → Rr := fun e h => (rK19_16 C k (e 4) (e 5) (e 6) (e 31) (e 32) h)
theorem rp19_16 (C : Nat → List V → H → Rr) (k : Nat) : dnOps C o19_9 (rS19_16 C k) = (rJ19_16 C k) := by
  refine Eq.trans (rapp_eq (rgrp_eq2 34 true rfl (rp19_15 C k) rfl) rfl) ?_
  kernel_rfl
def rK19 (C : Nat → List V → H → Rr) (k : Nat) (h : H) : Rr := (rK (C 10 [(.i .i64 2)] h) fun v1 h2 => (rB (vBld [(.i .i64 0), (.i .i64 0), (.i .i64 0), (.i .i64 0), (.i .i64 0), (.i .u32 0), (.i .i64 0), (.b false), (.b false), (.i .i64 0), (.i .u32 0)] [(0, 1, (.i .i64 1)), (1, 1, (.i .i64 1)), (5, 1, (.i .u32 1)), (9, 1, (.i .i64 0)), (10, 1, (.i .u32 6))]) fun v3 => (rK (C 12 [v1, v3] h2) fun v4 h5 => (rB (vExt v4 0) fun v6 => (rB (vExt v4 1) fun v7 => (rB (some (.p (some (H.nx h5, 0)), H.new h5 ⟨false, [(.p none), (.p none), (.i .i64 0), (.i .i64 0), (.i .i64 0), (.i .i64 0), (.i .i64 0), (.i .i64 0), (.i .u64 0), (.i .u64 0), (.b false)]⟩)) fun r8 => (rB (vStore r8.2 11 r8.1 v6) fun r9 => (rB (vLdA r9.2 11 r8.1) fun v10 => (rK (C 13 [v10, (.i .i64 8)] r9.2) fun v11 h12 => (rB (vStore h12 11 r8.1 v11) fun r13 => (rB (vFa 0 r8.1) fun v14 => (rB (vLd1 r13.2 v14) fun v15 => (rK (C 14 [v15] r13.2) fun v16 h17 => (rK (C 16 [v16, (.i .i64 0), (.i .i64 0)] h17) fun v18 h19 => (rB (vFa 0 r8.1) fun v20 => (rB (vLd1 h19 v20) fun v21 => (rK (C 14 [v21] h19) fun v22 h23 => (rK (C 16 [v22, (.i .i64 0), (.i .i64 1)] h23) fun v24 h25 => (rC (stdy false 1 v20 r13.2 h17) (rC (stdy false 1 v20 h17 h19) (rB (vLdA h25 11 r8.1) fun v26 => (rK (C 13 [v26, (.i .i64 20)] h25) fun v27 h28 => (rK (C 18 [v27, (.i .i64 1)] h28) fun v29 h30 => (rB (vExt v29 0) fun v31 => (rB (vExt v29 1) fun v32 => (rB (vExt v29 2) fun v33 => (rB (some (.p (some (H.nx h30, 0)), H.new h30 ⟨false, [(.i .i64 0), (.i .i64 0), (.i .i64 0), (.i .i64 0), (.i .i64 0), (.i .u32 0), (.i .i64 0), (.b false), (.b false), (.i .i64 0), (.i .u32 0)]⟩)) fun r34 => (rB (vStore r34.2 11 r8.1 v31) fun r35 => (rB (vStore r35.2 11 r34.1 v32) fun r36 => (rG v7 true (rK19_16 C k v24 r34.1 v33 v7 v18 r36.2) (rK19_16 C k v24 r34.1 v33 v7 undefV r36.2)))))))))))))))))))))))))))))))
theorem rp19 (C : Nat → List V → H → Rr) (k : Nat) : dn C k c19 (rQ19 C k) = fun e h => (rK19 C k h) := by
  refine Eq.trans (rseq_eq (rseq_eq (rseq_eq (rseq_eq (rseq_eq (rseq_eq rfl (rregion_eq (rapp_eq (rgrp_eq2 31 true rfl (rp19_16 C k) rfl) rfl))) rfl) rfl) rfl) rfl) rfl) ?_
  kernel_rfl
def F19 : RF := fun C k a h => match a with
  | [] => rK19 C k h
  | _ => none
theorem ro19 : RunOK IP 19 F19 := ⟨ir19, ip19, by kernel_rfl, fun C k a h r e => by
  unfold F19 at e
  split at e
  · exact ⟨by kernel_rfl, (congrFun (congrFun (rp19 C k) _) h).trans e⟩
  · cases e⟩
theorem ip20 : IP 20 = some ir20 := rfl
def Q20 [q : Hid (V → H → Prop)] : X → E → H → Prop := Qr rs20 q.un
def K20 (x0 : V) (h : H) [q : Hid (V → H → Prop)] : Prop := @Bnd V (vEqz false .p x0 (.p none)) ⟨fun v1 => @Sel v1 ⟨@Hid.un (V → H → Prop) q (.i .i64 0) h⟩ ⟨@Bnd V (vNilc x0) ⟨fun v2 => @Bnd V (vFa 28 v2) ⟨fun v3 => @Bnd V (vLd1 h v3) ⟨fun v4 => @Hid.un (V → H → Prop) q v4 h⟩⟩⟩⟩⟩
theorem p20 [q : Hid (V → H → Prop)] : den IP c20 (@Q20 q) = fun e h => @K20 (e 0) h q := by kernel_rfl
theorem f20 (a0 : V) (h : H) (Q : V → H → Prop) : @wF IP 20 [a0] h ⟨Q⟩ ↔ @K20 a0 h ⟨Q⟩ := (Fnc_den (ip20) (by kernel_rfl) (by kernel_rfl) h Q).trans (iff_of_eq (congrFun (congrFun (@p20 ⟨Q⟩) _) h))
theorem ip21 : IP 21 = some ir21 := rfl
def Q21 [q : Hid (V → H → Prop)] : X → E → H → Prop := Qr rs21 q.un
def Q21_1 [q : Hid (V → H → Prop)] : X → E → H → Prop := (@Q21 q)
def K21_1 (x0 : V) (h : H) [q : Hid (V → H → Prop)] : Prop := @Bnd (V × H) (vMake 8 [(.i .u64 0)] x0 h) ⟨fun r1 => @Bnd V (vBld [.nsl, .nsl, (.i .i64 0)] [(0, 1, r1.1)]) ⟨fun v2 => @Bnd (V × H) (vBox v2 r1.2) ⟨fun r3 => @Hid.un (V → H → Prop) q r3.1 r3.2⟩⟩⟩
def J21_1 [q : Hid (V → H → Prop)] : E → H → Prop := fun e h => @K21_1 (e 0) h q
theorem p21_1 [q : Hid (V → H → Prop)] : den IP c21_1 (@Q21_1 q) = (@J21_1 q) := by kernel_rfl
def Q21_2 [q : Hid (V → H → Prop)] : X → E → H → Prop := (Qx (@J21_1 q) (@Q21 q))
def K21_2 (x0 x8 : V) (h : H) [q : Hid (V → H → Prop)] : Prop := @Sel x8 ⟨@Hid.un (V → H → Prop) q (.p none) h⟩ ⟨@K21_1 x0 h q⟩
def J21_2 [q : Hid (V → H → Prop)] : E → H → Prop := fun e h => @K21_2 (e 0) (e 8) h q
theorem p21_2 [q : Hid (V → H → Prop)] : den IP c21_2 (@Q21_2 q) = (@J21_2 q) := by kernel_rfl
def S21_6 [q : Hid (V → H → Prop)] : E → H → Prop := ((Qx (@J21_2 q) (Qx (@J21_1 q) (@Q21 q))) X.normal)
def K21_6 (x0 x5 x7 : V) (h : H) [q : Hid (V → H → Prop)] : Prop := @Bnd V (vPick x5 (.b true) x7) ⟨fun v1 => @K21_2 x0 v1 h q⟩
def J21_6 [q : Hid (V → H → Prop)] : E → H → Prop := fun e h => @K21_6 (e 0) (e 5) (e 7) h q
theorem p21_6 [q : Hid (V → H → Prop)] : denOps IP o21_3 (@S21_6 q) = (@J21_6 q) := by
  refine Eq.trans (app_eq rfl rfl) ?_
  kernel_rfl
def K21 (x0 : V) (h : H) [q : Hid (V → H → Prop)] : Prop := @Bnd V (bin .lss x0 (.i .i64 1)) ⟨fun v1 => @Grd v1 false ⟨@Bnd V (bin .gtr x0 (.i .i64 16384)) ⟨fun v2 => @K21_6 x0 v1 v2 h q⟩⟩ ⟨@K21_6 x0 v1 undefV h q⟩⟩
theorem p21 [q : Hid (V → H → Prop)] : den IP c21 (@Q21 q) = fun e h => @K21 (e 0) h q := by
  refine Eq.trans (seq_eq (seq_eq (@p21_1 q) (seq_eq (@p21_2 q) (region_eq (app_eq (grp_eq2 5 false rfl (@p21_6 q) rfl) rfl)))) rfl) ?_
  kernel_rfl
theorem f21 (a0 : V) (h : H) (Q : V → H → Prop) : @wF IP 21 [a0] h ⟨Q⟩ ↔ @K21 a0 h ⟨Q⟩ := (Fnc_den (ip21) (by kernel_rfl) (by kernel_rfl) h Q).trans (iff_of_eq (congrFun (congrFun (@p21 ⟨Q⟩) _) h))
def rQ21 (C : Nat → List V → H → Rr) (k : Nat) : X → E → H → Rr := Qrr rs21
def rQ21_1 (C : Nat → List V → H → Rr) (k : Nat) : X → E → H → Rr := (rQ21 C k)
def rK21_1 (C : Nat → List V → H → Rr) (k : Nat) (x0 : V) (h : H) : Rr := (rB (vMake 8 [(.i .u64 0)] x0 h) fun r1 => (rB (vBld [.nsl, .nsl, (.i .i64 0)] [(0, 1, r1.1)]) fun v2 => (rB (vBox v2 r1.2) fun r3 => (some (r3.1, r3.2)))))
def rJ21_1 (C : Nat → List V → H → Rr) (k : Nat) : E → H → Rr := fun e h => (rK21_1 C k (e 0) h)
theorem rp21_1 (C : Nat → List V → H → Rr) (k : Nat) : dn C k c21_1 (rQ21_1 C k) = (rJ21_1 C k) := by kernel_rfl
def rQ21_2 (C : Nat → List V → H → Rr) (k : Nat) : X → E → H → Rr := (Qxr (rJ21_1 C k) (rQ21 C k))
def rK21_2 (C : Nat → List V → H → Rr) (k : Nat) (x0 x8 : V) (h : H) : Rr := (rS x8 (some ((.p none), h)) (rK21_1 C k x0 h))
def rJ21_2 (C : Nat → List V → H → Rr) (k : Nat) : E → H → Rr := fun e h => (rK21_2 C k (e 0) (e 8) h)
theorem rp21_2 (C : Nat → List V → H → Rr) (k : Nat) : dn C k c21_2 (rQ21_2 C k) = (rJ21_2 C k) := by kernel_rfl
def rS21_6 (C : Nat → List V → H → Rr) (k : Nat) : E → H → Rr := ((Qxr (rJ21_2 C k) (Qxr (rJ21_1 C k) (rQ21 C k))) X.normal)
def rK21_6 (C : Nat → List V → H → Rr) (k : Nat) (x0 x5 x7 : V) (h : H) : Rr := (rB (vPick x5 (.b true) x7) fun v1 => (rK21_2 C k x0 v1 h))
def rJ21_6 (C : Nat → List V → H → Rr) (k : Nat) : E → H → Rr := fun e h => (rK21_6 C k (e 0) (e 5) (e 7) h)
theorem rp21_6 (C : Nat → List V → H → Rr) (k : Nat) : dnOps C o21_3 (rS21_6 C k) = (rJ21_6 C k) := by
  refine Eq.trans (rapp_eq rfl rfl) ?_
  kernel_rfl
def rK21 (C : Nat → List V → H → Rr) (k : Nat) (x0 : V) (h : H) : Rr := (rB (bin .lss x0 (.i .i64 1)) fun v1 => (rG v1 false (rB (bin .gtr x0 (.i .i64 16384)) fun v2 => (rK21_6 C k x0 v1 v2 h)) (rK21_6 C k x0 v1 undefV h)))
theorem rp21 (C : Nat → List V → H → Rr) (k : Nat) : dn C k c21 (rQ21 C k) = fun e h => (rK21 C k (e 0) h) := by
  refine Eq.trans (rseq_eq (rseq_eq (rp21_1 C k) (rseq_eq (rp21_2 C k) (rregion_eq (rapp_eq (rgrp_eq2 5 false rfl (rp21_6 C k) rfl) rfl)))) rfl) ?_
  kernel_rfl
def F21 : RF := fun C k a h => match a with
  | [a0] => rK21 C k a0 h
  | _ => none
theorem ro21 : RunOK IP 21 F21 := ⟨ir21, ip21, by kernel_rfl, fun C k a h r e => by
  unfold F21 at e
  split at e
  · exact ⟨by kernel_rfl, (congrFun (congrFun (rp21 C k) _) h).trans e⟩
  · cases e⟩
theorem ip22 : IP 22 = some ir22 := rfl
def Q22 [q : Hid (V → H → Prop)] : X → E → H → Prop := Qr rs22 q.un
def Q22_1 [q : Hid (V → H → Prop)] : X → E → H → Prop := (@Q22 q)
def Q22_2 [q : Hid (V → H → Prop)] : X → E → H → Prop := (@Q22_1 q)
def K22_2 (x0 x1 : V) (h : H) [q : Hid (V → H → Prop)] : Prop := @Bnd V (vNilc x0) ⟨fun v1 => @Bnd V (vFa 9 v1) ⟨fun v2 => @Bnd V (vLd1 h v2) ⟨fun v3 => @Bnd V (bin .eql v3 (.i .i64 1)) ⟨fun v4 => @Sel v4 ⟨@wF IP 78 [x0, x1] h ⟨fun v5 h6 => @Hid.un (V → H → Prop) q (.tup []) h6⟩⟩ ⟨@wF IP 79 [x0, x1] h ⟨fun v7 h8 => @Hid.un (V → H → Prop) q (.tup []) h8⟩⟩⟩⟩⟩⟩
def J22_2 [q : Hid (V → H → Prop)] : E → H → Prop := fun e h => @K22_2 (e 0) (e 1) h q
theorem p22_2 [q : Hid (V → H → Prop)] : den IP c22_2 (@Q22_2 q) = (@J22_2 q) := by kernel_rfl
def K22_1 (x0 x1 : V) (h : H) [q : Hid (V → H → Prop)] : Prop := @Bnd V (vNilc x0) ⟨fun v1 => @Bnd V (vFa 9 v1) ⟨fun v2 => @Bnd V (vLd1 h v2) ⟨fun v3 => @Bnd V (bin .eql v3 (.i .i64 0)) ⟨fun v4 => @Sel v4 ⟨@wF IP 77 [x0] h ⟨fun v5 h6 => @K22_2 x0 x1 h6 q⟩⟩ ⟨@K22_2 x0 x1 h q⟩⟩⟩⟩⟩
def J22_1 [q : Hid (V → H → Prop)] : E → H → Prop := fun e h => @K22_1 (e 0) (e 1) h q
theorem p22_1 [q : Hid (V → H → Prop)] : den IP c22_1 (@Q22_1 q) = (@J22_1 q) := by
  refine Eq.trans (seq_eq (@p22_2 q) rfl) ?_
  kernel_rfl
def Q22_3 [q : Hid (V → H → Prop)] : X → E → H → Prop := (Qx (@J22_1 q) (@Q22 q))
def K22_3 (x0 x1 x9 : V) (h : H) [q : Hid (V → H → Prop)] : Prop := @Sel x9 ⟨@Hid.un (V → H → Prop) q (.tup []) h⟩ ⟨@K22_1 x0 x1 h q⟩
def J22_3 [q : Hid (V → H → Prop)] : E → H → Prop := fun e h => @K22_3 (e 0) (e 1) (e 9) h q
theorem p22_3 [q : Hid (V → H → Prop)] : den IP c22_3 (@Q22_3 q) = (@J22_3 q) := by kernel_rfl
def S22_7 [q : Hid (V → H → Prop)] : E → H → Prop := ((Qx (@J22_3 q) (Qx (@J22_1 q) (@Q22 q))) X.normal)
def K22_7 (x0 x1 x6 x8 : V) (h : H) [q : Hid (V → H → Prop)] : Prop := @Bnd V (vPick x6 (.b true) x8) ⟨fun v1 => @K22_3 x0 x1 v1 h q⟩
def J22_7 [q : Hid (V → H → Prop)] : E → H → Prop := fun e h => @K22_7 (e 0) (e 1) (e 6) (e 8) h q
theorem p22_7 [q : Hid (V → H → Prop)] : denOps IP o22_4 (@S22_7 q) = (@J22_7 q) := by
  refine Eq.trans (app_eq rfl rfl) ?_
  kernel_rfl
def K22 (x0 x1 : V) (h : H) [q : Hid (V → H → Prop)] : Prop := @Bnd V (vEqz false .p x0 (.p none)) ⟨fun v1 => @Grd v1 false ⟨@Bnd V (vEqz false .p x1 (.p none)) ⟨fun v2 => @K22_7 x0 x1 v1 v2 h q⟩⟩ ⟨@K22_7 x0 x1 v1 undefV h q⟩⟩
theorem p22 [q : Hid (V → H → Prop)] : den IP c22 (@Q22 q) = fun e h => @K22 (e 0) (e 1) h q := by
  refine Eq.trans (seq_eq (@p22_1 q) (seq_eq (@p22_3 q) (region_eq (app_eq (grp_eq2 6 false rfl (@p22_7 q) rfl) rfl)))) ?_
  kernel_rfl
theorem f22 (a0 a1 : V) (h : H) (Q : V → H → Prop) : @wF IP 22 [a0, a1] h ⟨Q⟩ ↔ @K22 a0 a1 h ⟨Q⟩ := (Fnc_den (ip22) (by kernel_rfl) (by kernel_rfl) h Q).trans (iff_of_eq (congrFun (congrFun (@p22 ⟨Q⟩) _) h))
def rQ22 (C : Nat → List V → H → Rr) (k : Nat) : X → E → H → Rr := Qrr rs22
def rQ22_1 (C : Nat → List V → H → Rr) (k : Nat) : X → E → H → Rr := (rQ22 C k)
def rQ22_2 (C : Nat → List V → H → Rr) (k : Nat) : X → E → H → Rr := (rQ22_1 C k)
def rK22_2 (C : Nat → List V → H → Rr) (k : Nat) (x0 x1 : V) (h : H) : Rr := (rB (vNilc x0) fun v1 => (rB (vFa 9 v1) fun v2 => (rB (vLd1 h v2) fun v3 => (rB (bin .eql v3 (.i .i64 1)) fun v4 => (rS v4 (rK (C 78 [x0, x1] h) fun v5 h6 => (some ((.tup []), h6))) (rK (C 79 [x0, x1] h) fun v7 h8 => (some ((.tup []), h8))))))))
def rJ22_2 (C : Nat → List V → H → Rr) (k : Nat) : E → H → Rr := fun e h => (rK22_2 C k (e 0) (e 1) h)
theorem rp22_2 (C : Nat → List V → H → Rr) (k : Nat) : dn C k c22_2 (rQ22_2 C k) = (rJ22_2 C k) := by kernel_rfl
def rK22_1 (C : Nat → List V → H → Rr) (k : Nat) (x0 x1 : V) (h : H) : Rr := (rB (vNilc x0) fun v1 => (rB (vFa 9 v1) fun v2 => (rB (vLd1 h v2) fun v3 => (rB (bin .eql v3 (.i .i64 0)) fun v4 => (rS v4 (rK (C 77 [x0] h) fun v5 h6 => (rK22_2 C k x0 x1 h6)) (rK22_2 C k x0 x1 h))))))
def rJ22_1 (C : Nat → List V → H → Rr) (k : Nat) : E → H → Rr := fun e h => (rK22_1 C k (e 0) (e 1) h)
theorem rp22_1 (C : Nat → List V → H → Rr) (k : Nat) : dn C k c22_1 (rQ22_1 C k) = (rJ22_1 C k) := by
  refine Eq.trans (rseq_eq (rp22_2 C k) rfl) ?_
  kernel_rfl
def rQ22_3 (C : Nat → List V → H → Rr) (k : Nat) : X → E → H → Rr := (Qxr (rJ22_1 C k) (rQ22 C k))
def rK22_3 (C : Nat → List V → H → Rr) (k : Nat) (x0 x1 x9 : V) (h : H) : Rr := (rS x9 (some ((.tup []), h)) (rK22_1 C k x0 x1 h))
def rJ22_3 (C : Nat → List V → H → Rr) (k : Nat) : E → H → Rr := fun e h => (rK22_3 C k (e 0) (e 1) (e 9) h)
theorem rp22_3 (C : Nat → List V → H → Rr) (k : Nat) : dn C k c22_3 (rQ22_3 C k) = (rJ22_3 C k) := by kernel_rfl
def rS22_7 (C : Nat → List V → H → Rr) (k : Nat) : E → H → Rr := ((Qxr (rJ22_3 C k) (Qxr (rJ22_1 C k) (rQ22 C k))) X.normal)
def rK22_7 (C : Nat → List V → H → Rr) (k : Nat) (x0 x1 x6 x8 : V) (h : H) : Rr := (rB (vPick x6 (.b true) x8) fun v1 => (rK22_3 C k x0 x1 v1 h))
def rJ22_7 (C : Nat → List V → H → Rr) (k : Nat) : E → H → Rr := fun e h => (rK22_7 C k (e 0) (e 1) (e 6) (e 8) h)
theorem rp22_7 (C : Nat → List V → H → Rr) (k : Nat) : dnOps C o22_4 (rS22_7 C k) = (rJ22_7 C k) := by
  refine Eq.trans (rapp_eq rfl rfl) ?_
  kernel_rfl
def rK22 (C : Nat → List V → H → Rr) (k : Nat) (x0 x1 : V) (h : H) : Rr := (rB (vEqz false .p x0 (.p none)) fun v1 => (rG v1 false (rB (vEqz false .p x1 (.p none)) fun v2 => (rK22_7 C k x0 x1 v1 v2 h)) (rK22_7 C k x0 x1 v1 undefV h)))
theorem rp22 (C : Nat → List V → H → Rr) (k : Nat) : dn C k c22 (rQ22 C k) = fun e h => (rK22 C k (e 0) (e 1) h) := by
  refine Eq.trans (rseq_eq (rp22_1 C k) (rseq_eq (rp22_3 C k) (rregion_eq (rapp_eq (rgrp_eq2 6 false rfl (rp22_7 C k) rfl) rfl)))) ?_
  kernel_rfl
def F22 : RF := fun C k a h => match a with
  | [a0, a1] => rK22 C k a0 a1 h
  | _ => none
theorem ro22 : RunOK IP 22 F22 := ⟨ir22, ip22, by kernel_rfl, fun C k a h r e => by
  unfold F22 at e
  split at e
  · exact ⟨by kernel_rfl, (congrFun (congrFun (rp22 C k) _) h).trans e⟩
  · cases e⟩
theorem ip23 : IP 23 = some ir23 := rfl
def Q23 [q : Hid (V → H → Prop)] : X → E → H → Prop := Qr rs23 q.un
def K23 (x0 : V) (h : H) [q : Hid (V → H → Prop)] : Prop := @Bnd V (vEqz true .p x0 (.p none)) ⟨fun v1 => @Sel v1 ⟨@Bnd V (vNilc x0) ⟨fun v2 => @Bnd V (vFa 8 v2) ⟨fun v3 => @Bnd (V × H) (vStore h 1 v3 (.b true)) ⟨fun r4 => @Hid.un (V → H → Prop) q (.tup []) r4.2⟩⟩⟩⟩ ⟨@Hid.un (V → H → Prop) q (.tup []) h⟩⟩
theorem p23 [q : Hid (V → H → Prop)] : den IP c23 (@Q23 q) = fun e h => @K23 (e 0) h q := by kernel_rfl
theorem f23 (a0 : V) (h : H) (Q : V → H → Prop) : @wF IP 23 [a0] h ⟨Q⟩ ↔ @K23 a0 h ⟨Q⟩ := (Fnc_den (ip23) (by kernel_rfl) (by kernel_rfl) h Q).trans (iff_of_eq (congrFun (congrFun (@p23 ⟨Q⟩) _) h))
theorem ip24 : IP 24 = some ir24 := rfl
def Q24 [q : Hid (V → H → Prop)] : X → E → H → Prop := Qr rs24 q.un
def Q24_1 [q : Hid (V → H → Prop)] : X → E → H → Prop := (@Q24 q)
def K24_1 (x3 : V) (h : H) [q : Hid (V → H → Prop)] : Prop := @Hid.un (V → H → Prop) q x3 h
def J24_1 [q : Hid (V → H → Prop)] : E → H → Prop := fun e h => @K24_1 (e 3) h q
theorem p24_1 [q : Hid (V → H → Prop)] : den IP c24_1 (@Q24_1 q) = (@J24_1 q) := by kernel_rfl
def R24_2 [q : Hid (V → H → Prop)] : X → E → H → Prop := (Qb 0 (Qx (@J24_1 q) (@Q24 q)))
def Q24_2 [q : Hid (V → H → Prop)] [g24_2 : Hid (V → V → V → V → H → Prop)] : X → E → H → Prop := Qx (fun e h => g24_2.un (e 1) (e 3) (e 13) (e 14) h) (@R24_2 q)
def L24_2 (x1 x3 x13 x14 : V) (h : H) [q : Hid (V → H → Prop)] [g24_2 : Hid (V → V → V → V → H → Prop)] : Prop := @Bnd V (bin .lss x14 x13) ⟨fun v1 => @Sel v1 ⟨@Bnd V (vNilc x3) ⟨fun v2 => @Bnd V (vFa 4 v2) ⟨fun v3 => @Bnd V (vLd1 h v3) ⟨fun v4 => @Bnd V (vFa 1 x1) ⟨fun v5 => @Bnd V (vLd1 h v5) ⟨fun v6 => @wF IP 81 [v6] h ⟨fun v7 h8 => @Bnd (V × H) (vNewSl 1 [(.p none)] [(0, 1, v7)] h8) ⟨fun r9 => @Bnd (V × H) (vApp 1 8 v4 r9.1 r9.2) ⟨fun r10 => @Bnd V (vNilc x3) ⟨fun v11 => @Bnd V (vFa 4 v11) ⟨fun v12 => @Bnd (V × H) (vStore r10.2 1 v12 r10.1) ⟨fun r13 => @Chk (stdy false 1 v3 h h8) ⟨@Bnd V (bin .add x14 (.i .i64 1)) ⟨fun v14 => @Hid.un (V → V → V → V → H → Prop) g24_2 x1 x3 x13 v14 r13.2⟩⟩⟩⟩⟩⟩⟩⟩⟩⟩⟩⟩⟩⟩ ⟨@K24_1 x3 h q⟩⟩
theorem p24_2 [q : Hid (V → H → Prop)] [g24_2 : Hid (V → V → V → V → H → Prop)] : den IP c24_2 (@Q24_2 q g24_2) = fun e h => @L24_2 (e 1) (e 3) (e 13) (e 14) h q g24_2 := by kernel_rfl
def W24_2 (x1 x3 x13 x14 : V) (h : H) [q : Hid (V → H → Prop)] : Prop := wFix (fun (g : V × V × V × V × Unit → H → Prop) (x : V × V × V × V × Unit) h => @L24_2 x.1 x.2.1 x.2.2.1 x.2.2.2.1 h q ⟨fun y1 y3 y13 y14 h => g (y1, y3, y13, y14, ()) h⟩) (x1, x3, x13, x14, ()) h
theorem n24_2 [q : Hid (V → H → Prop)] : ∀ g : V × V × V × V × Unit → H → Prop, den IP c24_2 (Qx (fun e h => g ((fun e : E => ((e 1, e 3, e 13, e 14, ()) : V × V × V × V × Unit)) e) h) (@R24_2 q)) = fun e h => (fun (g : V × V × V × V × Unit → H → Prop) (x : V × V × V × V × Unit) h => @L24_2 x.1 x.2.1 x.2.2.1 x.2.2.2.1 h q ⟨fun y1 y3 y13 y14 h => g (y1, y3, y13, y14, ()) h⟩) g ((fun e : E => ((e 1, e 3, e 13, e 14, ()) : V × V × V × V × Unit)) e) h := fun g => @p24_2 q ⟨fun y1 y3 y13 y14 h => g (y1, y3, y13, y14, ()) h⟩
theorem w24_2 [q : Hid (V → H → Prop)] : den IP (.loop c24_2) (@R24_2 q) = fun e h => @W24_2 (e 1) (e 3) (e 13) (e 14) h q := loop_eq (fun e : E => ((e 1, e 3, e 13, e 14, ()) : V × V × V × V × Unit)) (fun (g : V × V × V × V × Unit → H → Prop) (x : V × V × V × V × Unit) h => @L24_2 x.1 x.2.1 x.2.2.1 x.2.2.2.1 h q ⟨fun y1 y3 y13 y14 h => g (y1, y3, y13, y14, ()) h⟩) (@n24_2 q)
theorem m24_2 [q : Hid (V → H → Prop)] : Mono (fun (g : V × V × V × V × Unit → H → Prop) (x : V × V × V × V × Unit) h => @L24_2 x.1 x.2.1 x.2.2.1 x.2.2.2.1 h q ⟨fun y1 y3 y13 y14 h => g (y1, y3, y13, y14, ()) h⟩) := mono_of (p := (fun e : E => ((e 1, e 3, e 13, e 14, ()) : V × V × V × V × Unit))) (fun x : V × V × V × V × Unit => upd (upd (upd (upd (fun _ => undefV) 14 (x.2.2.2.1)) 13 (x.2.2.1)) 3 (x.2.1)) 1 (x.1)) (fun _ => rfl) (@n24_2 q)
theorem W24_2_inv {q : Hid (V → H → Prop)} (I : Nat → V → V → V → V → H → Prop) (step : ∀ n x1 x3 x13 x14 h, I n x1 x3 x13 x14 h → @L24_2 x1 x3 x13 x14 h q ⟨fun y1 y3 y13 y14 h => ∃ m, m < n ∧ I m y1 y3 y13 y14 h⟩) (n : Nat) (x1 x3 x13 x14 : V) (h : H) (hi : I n x1 x3 x13 x14 h) : @W24_2 x1 x3 x13 x14 h q :=
  wFix_inv (@m24_2 q) (fun n x h => I n x.1 x.2.1 x.2.2.1 x.2.2.2.1 h) (fun n x h hi => step n x.1 x.2.1 x.2.2.1 x.2.2.2.1 h hi) n (x1, x3, x13, x14, ()) h hi
theorem W24_2_eq (x1 x3 x13 x14 : V) (h : H) {q : Hid (V → H → Prop)} : @W24_2 x1 x3 x13 x14 h q ↔ @L24_2 x1 x3 x13 x14 h q ⟨fun y1 y3 y13 y14 h => @W24_2 y1 y3 y13 y14 h q⟩ := wFix_unroll (@m24_2 q) (x1, x3, x13, x14, ()) h
def K24 (x0 : V) (h : H) [q : Hid (V → H → Prop)] : Prop := @Bnd (V × H) (vBox x0 h) ⟨fun r1 => @Bnd V (vLdA r1.2 4 r1.1) ⟨fun v2 => @Bnd V (vFa 2 r1.1) ⟨fun v3 => @Bnd V (vLd1 r1.2 v3) ⟨fun v4 => @wF IP 80 [v4] r1.2 ⟨fun v5 h6 => @Bnd V (vBld [(.i .i64 0), (.i .i64 0), (.i .i64 0), (.i .i64 0), .nsl, (.p none), (.i .u32 0), .nsl, .nsl, .nsl, .nsl, .nsl] [(0, 4, v2), (5, 1, v5)]) ⟨fun v7 => @Bnd (V × H) (vBox v7 h6) ⟨fun r8 => @Chk (stdy true 4 r1.1 r1.2 h6) ⟨@Bnd V (vFa 0 r1.1) ⟨fun v9 => @Bnd V (vLd1 r8.2 v9) ⟨fun v10 => @Bnd V (foldO max2 v10 [(.i .i64 1)]) ⟨fun v11 => @Bnd V (foldO min2 v11 [(.i .i64 4)]) ⟨fun v12 => @W24_2 r1.1 r8.1 v12 (.i .i64 0) r8.2 q⟩⟩⟩⟩⟩⟩⟩⟩⟩⟩⟩⟩
theorem p24 [q : Hid (V → H → Prop)] : den IP c24 (@Q24 q) = fun e h => @K24 (e 0) h q := by
  refine Eq.trans (seq_eq (seq_eq (seq_eq (@p24_1 q) (seq_eq (block_eq (@w24_2 q)) rfl)) rfl) rfl) ?_
  kernel_rfl
theorem f24 (a0 : V) (h : H) (Q : V → H → Prop) : @wF IP 24 [a0] h ⟨Q⟩ ↔ @K24 a0 h ⟨Q⟩ := (Fnc_den (ip24) (by kernel_rfl) (by kernel_rfl) h Q).trans (iff_of_eq (congrFun (congrFun (@p24 ⟨Q⟩) _) h))
def rQ24 (C : Nat → List V → H → Rr) (k : Nat) : X → E → H → Rr := Qrr rs24
def rQ24_1 (C : Nat → List V → H → Rr) (k : Nat) : X → E → H → Rr := (rQ24 C k)
def rK24_1 (C : Nat → List V → H → Rr) (k : Nat) (x3 : V) (h : H) : Rr := (some (x3, h))
def rJ24_1 (C : Nat → List V → H → Rr) (k : Nat) : E → H → Rr := fun e h => (rK24_1 C k (e 3) h)
theorem rp24_1 (C : Nat → List V → H → Rr) (k : Nat) : dn C k c24_1 (rQ24_1 C k) = (rJ24_1 C k) := by kernel_rfl
def rR24_2 (C : Nat → List V → H → Rr) (k : Nat) : X → E → H → Rr := (Qbr 0 (Qxr (rJ24_1 C k) (rQ24 C k)))
def rQ24_2 (C : Nat → List V → H → Rr) (k : Nat) (g24_2 : V → V → V → V → H → Rr) : X → E → H → Rr := Qxr (fun e h => g24_2 (e 1) (e 3) (e 13) (e 14) h) (rR24_2 C k)
def rL24_2 (C : Nat → List V → H → Rr) (k : Nat) (g24_2 : V → V → V → V → H → Rr) (x1 x3 x13 x14 : V) (h : H) : Rr := (rB (bin .lss x14 x13) fun v1 => (rS v1 (rB (vNilc x3) fun v2 => (rB (vFa 4 v2) fun v3 => (rB (vLd1 h v3) fun v4 => (rB (vFa 1 x1) fun v5 => (rB (vLd1 h v5) fun v6 => (rK (C 81 [v6] h) fun v7 h8 => (rB (vNewSl 1 [(.p none)] [(0, 1, v7)] h8) fun r9 => (rB (vApp 1 8 v4 r9.1 r9.2) fun r10 => (rB (vNilc x3) fun v11 => (rB (vFa 4 v11) fun v12 => (rB (vStore r10.2 1 v12 r10.1) fun r13 => (rC (stdy false 1 v3 h h8) (rB (bin .add x14 (.i .i64 1)) fun v14 => (g24_2 x1 x3 x13 v14 r13.2)))))))))))))) (rK24_1 C k x3 h)))
theorem rp24_2 (C : Nat → List V → H → Rr) (k : Nat) (g24_2 : V → V → V → V → H → Rr) : dn C k c24_2 (rQ24_2 C k g24_2) = fun e h => (rL24_2 C k g24_2 (e 1) (e 3) (e 13) (e 14) h) := by kernel_rfl
def rW24_2 (C : Nat → List V → H → Rr) (k : Nat) (x1 x3 x13 x14 : V) (h : H) : Rr := rFix k (fun (g : V × V × V × V × Unit → H → Rr) (x : V × V × V × V × Unit) h => rL24_2 C k (fun y1 y3 y13 y14 h => g (y1, y3, y13, y14, ()) h) x.1 x.2.1 x.2.2.1 x.2.2.2.1 h) (x1, x3, x13, x14, ()) h
theorem rn24_2 (C : Nat → List V → H → Rr) (k : Nat) : ∀ g : V × V × V × V × Unit → H → Rr, dn C k c24_2 (Qxr (fun e h => g ((fun e : E => ((e 1, e 3, e 13, e 14, ()) : V × V × V × V × Unit)) e) h) (rR24_2 C k)) = fun e h => (fun (g : V × V × V × V × Unit → H → Rr) (x : V × V × V × V × Unit) h => rL24_2 C k (fun y1 y3 y13 y14 h => g (y1, y3, y13, y14, ()) h) x.1 x.2.1 x.2.2.1 x.2.2.2.1 h) g ((fun e : E => ((e 1, e 3, e 13, e 14, ()) : V × V × V × V × Unit)) e) h := fun g => rp24_2 C k (fun y1 y3 y13 y14 h => g (y1, y3, y13, y14, ()) h)
theorem rw24_2 (C : Nat → List V → H → Rr) (k : Nat) : dn C k (.loop c24_2) (rR24_2 C k) = fun e h => (rW24_2 C k (e 1) (e 3) (e 13) (e 14) h) := rloop_eq (fun e : E => ((e 1, e 3, e 13, e 14, ()) : V × V × V × V × Unit)) (fun (g : V × V × V × V × Unit → H → Rr) (x : V × V × V × V × Unit) h => rL24_2 C k (fun y1 y3 y13 y14 h => g (y1, y3, y13, y14, ()) h) x.1 x.2.1 x.2.2.1 x.2.2.2.1 h) (rn24_2 C k)
def rK24 (C : Nat → List V → H → Rr) (k : Nat) (x0 : V) (h : H) : Rr := (rB (vBox x0 h) fun r1 => (rB (vLdA r1.2 4 r1.1) fun v2 => (rB (vFa 2 r1.1) fun v3 => (rB (vLd1 r1.2 v3) fun v4 => (rK (C 80 [v4] r1.2) fun v5 h6 => (rB (vBld [(.i .i64 0), (.i .i64 0), (.i .i64 0), (.i .i64 0), .nsl, (.p none), (.i .u32 0), .nsl, .nsl, .nsl, .nsl, .nsl] [(0, 4, v2), (5, 1, v5)]) fun v7 => (rB (vBox v7 h6) fun r8 => (rC (stdy true 4 r1.1 r1.2 h6) (rB (vFa 0 r1.1) fun v9 => (rB (vLd1 r8.2 v9) fun v10 => (rB (foldO max2 v10 [(.i .i64 1)]) fun v11 => (rB (foldO min2 v11 [(.i .i64 4)]) fun v12 => (rW24_2 C k r1.1 r8.1 v12 (.i .i64 0) r8.2)))))))))))))
theorem rp24 (C : Nat → List V → H → Rr) (k : Nat) : dn C k c24 (rQ24 C k) = fun e h => (rK24 C k (e 0) h) := by
  refine Eq.trans (rseq_eq (rseq_eq (rseq_eq (rp24_1 C k) (rseq_eq (rblock_eq (rw24_2 C k)) rfl)) rfl) rfl) ?_
  kernel_rfl
def F24 : RF := fun C k a h => match a with
  | [a0] => rK24 C k a0 h
  | _ => none
theorem ro24 : RunOK IP 24 F24 := ⟨ir24, ip24, by kernel_rfl, fun C k a h r e => by
  unfold F24 at e
  split at e
  · exact ⟨by kernel_rfl, (congrFun (congrFun (rp24 C k) _) h).trans e⟩
  · cases e⟩
theorem ip25 : IP 25 = some ir25 := rfl
def Q25 [q : Hid (V → H → Prop)] : X → E → H → Prop := Qr rs25 q.un
def Q25_1 [q : Hid (V → H → Prop)] : X → E → H → Prop := (@Q25 q)
def K25_1 (x0 x1 : V) (h : H) [q : Hid (V → H → Prop)] : Prop := @Bnd V (vNilc x0) ⟨fun v1 => @Bnd V (vFa 0 v1) ⟨fun v2 => @Bnd V (vLd1 h v2) ⟨fun v3 => @wF IP 82 [v3, x1] h ⟨fun v4 h5 => @Hid.un (V → H → Prop) q v4 h5⟩⟩⟩⟩
def J25_1 [q : Hid (V → H → Prop)] : E → H → Prop := fun e h => @K25_1 (e 0) (e 1) h q
theorem p25_1 [q : Hid (V → H → Prop)] : den IP c25_1 (@Q25_1 q) = (@J25_1 q) := by kernel_rfl
def Q25_2 [q : Hid (V → H → Prop)] : X → E → H → Prop := (Qx (@J25_1 q) (@Q25 q))
def K25_2 (x0 x1 x21 : V) (h : H) [q : Hid (V → H → Prop)] : Prop := @Sel x21 ⟨@Hid.un (V → H → Prop) q (.b false) h⟩ ⟨@K25_1 x0 x1 h q⟩
def J25_2 [q : Hid (V → H → Prop)] : E → H → Prop := fun e h => @K25_2 (e 0) (e 1) (e 21) h q
theorem p25_2 [q : Hid (V → H → Prop)] : den IP c25_2 (@Q25_2 q) = (@J25_2 q) := by kernel_rfl
def S25_8 [q : Hid (V → H → Prop)] : E → H → Prop := ((Qx (@J25_2 q) (Qx (@J25_1 q) (@Q25 q))) X.normal)
def K25_8 (x0 x1 x7 x20 : V) (h : H) [q : Hid (V → H → Prop)] : Prop := @Bnd V (vPick x7 (.b true) x20) ⟨fun v1 => @K25_2 x0 x1 v1 h q⟩
def J25_8 [q : Hid (V → H → Prop)] : E → H → Prop := fun e h => @K25_8 (e 0) (e 1) (e 7) (e 20) h q
theorem p25_8 [q : Hid (V → H → Prop)] : denOps IP o25_3 (@S25_8 q) = (@J25_8 q) := by
  refine Eq.trans (app_eq rfl rfl) ?_
  kernel_rfl
def S25_9 [q : Hid (V → H → Prop)] : E → H → Prop := ((Qx (@J25_2 q) (Qx (@J25_1 q) (@Q25 q))) X.normal)
def K25_9 (x0 x1 x7 x13 x19 : V) (h : H) [q : Hid (V → H → Prop)] : Prop := @Grd x7 false ⟨@Bnd V (vPick x13 x19 (.b false)) ⟨fun v1 => @K25_8 x0 x1 x7 v1 h q⟩⟩ ⟨@K25_8 x0 x1 x7 undefV h q⟩
def J25_9 [q : Hid (V → H → Prop)] : E → H → Prop := fun e h => @K25_9 (e 0) (e 1) (e 7) (e 13) (e 19) h q
theorem p25_9 [q : Hid (V → H → Prop)] : denOps IP o25_4 (@S25_9 q) = (@J25_9 q) := by
  refine Eq.trans (grp_eq2 7 false rfl (@p25_8 q) rfl) ?_
  kernel_rfl
def S25_10 [q : Hid (V → H → Prop)] : E → H → Prop := ((Qx (@J25_2 q) (Qx (@J25_1 q) (@Q25 q))) X.normal)
def K25_10 (x0 x1 x7 x13 : V) (h : H) [q : Hid (V → H → Prop)] : Prop := @Grd x13 true ⟨@Bnd V (vNilc x0) ⟨fun v1 => @Bnd V (vFa 27 v1) ⟨fun v2 => @Bnd V (vLd1 h v2) ⟨fun v3 => @Bnd V (bin .eql v3 x1) ⟨fun v4 => @K25_9 x0 x1 x7 x13 v4 h q⟩⟩⟩⟩⟩ ⟨@K25_9 x0 x1 x7 x13 undefV h q⟩
def J25_10 [q : Hid (V → H → Prop)] : E → H → Prop := fun e h => @K25_10 (e 0) (e 1) (e 7) (e 13) h q
theorem p25_10 [q : Hid (V → H → Prop)] : denOps IP o25_5 (@S25_10 q) = (@J25_10 q) := by
  refine Eq.trans (grp_eq2 13 true rfl (@p25_9 q) rfl) ?_
  kernel_rfl
def K25 (x0 x1 : V) (h : H) [q : Hid (V → H → Prop)] : Prop := @Bnd V (vEqz false .p x0 (.p none)) ⟨fun v1 => @Grd v1 false ⟨@Bnd V (vNilc x0) ⟨fun v2 => @Bnd V (vFa 9 v2) ⟨fun v3 => @Bnd V (vLd1 h v3) ⟨fun v4 => @Bnd V (bin .eql v4 (.i .i64 2)) ⟨fun v5 => @K25_10 x0 x1 v1 v5 h q⟩⟩⟩⟩⟩ ⟨@K25_10 x0 x1 v1 undefV h q⟩⟩
theorem p25 [q : Hid (V → H → Prop)] : den IP c25 (@Q25 q) = fun e h => @K25 (e 0) (e 1) h q := by
  refine Eq.trans (seq_eq (seq_eq (@p25_1 q) (seq_eq (@p25_2 q) (region_eq (app_eq (grp_eq2 7 false rfl (@p25_10 q) rfl) rfl)))) rfl) ?_
  kernel_rfl
theorem f25 (a0 a1 : V) (h : H) (Q : V → H → Prop) : @wF IP 25 [a0, a1] h ⟨Q⟩ ↔ @K25 a0 a1 h ⟨Q⟩ := (Fnc_den (ip25) (by kernel_rfl) (by kernel_rfl) h Q).trans (iff_of_eq (congrFun (congrFun (@p25 ⟨Q⟩) _) h))
theorem ip26 : IP 26 = some ir26 := rfl
def Q26 [q : Hid (V → H → Prop)] : X → E → H → Prop := Qr rs26 q.un
def K26 (x0 : V) (h : H) [q : Hid (V → H → Prop)] : Prop := @Bnd V (vEqz false .p x0 (.p none)) ⟨fun v1 => @Sel v1 ⟨@Hid.un (V → H → Prop) q V.nsl h⟩ ⟨@Bnd V (vNilc x0) ⟨fun v2 => @Bnd V (vFa 1 v2) ⟨fun v3 => @Bnd V (vLd1 h v3) ⟨fun v4 => @wF IP 83 [v4] h ⟨fun v5 h6 => @Hid.un (V → H → Prop) q v5 h6⟩⟩⟩⟩⟩⟩
theorem p26 [q : Hid (V → H → Prop)] : den IP c26 (@Q26 q) = fun e h => @K26 (e 0) h q := by kernel_rfl
theorem f26 (a0 : V) (h : H) (Q : V → H → Prop) : @wF IP 26 [a0] h ⟨Q⟩ ↔ @K26 a0 h ⟨Q⟩ := (Fnc_den (ip26) (by kernel_rfl) (by kernel_rfl) h Q).trans (iff_of_eq (congrFun (congrFun (@p26 ⟨Q⟩) _) h))
def rQ26 (C : Nat → List V → H → Rr) (k : Nat) : X → E → H → Rr := Qrr rs26
def rK26 (C : Nat → List V → H → Rr) (k : Nat) (x0 : V) (h : H) : Rr := (rB (vEqz false .p x0 (.p none)) fun v1 => (rS v1 (some (V.nsl, h)) (rB (vNilc x0) fun v2 => (rB (vFa 1 v2) fun v3 => (rB (vLd1 h v3) fun v4 => (rK (C 83 [v4] h) fun v5 h6 => (some (v5, h6))))))))
theorem rp26 (C : Nat → List V → H → Rr) (k : Nat) : dn C k c26 (rQ26 C k) = fun e h => (rK26 C k (e 0) h) := by kernel_rfl
def F26 : RF := fun C k a h => match a with
  | [a0] => rK26 C k a0 h
  | _ => none
theorem ro26 : RunOK IP 26 F26 := ⟨ir26, ip26, by kernel_rfl, fun C k a h r e => by
  unfold F26 at e
  split at e
  · exact ⟨by kernel_rfl, (congrFun (congrFun (rp26 C k) _) h).trans e⟩
  · cases e⟩
theorem ip27 : IP 27 = some ir27 := rfl
def Q27 [q : Hid (V → H → Prop)] : X → E → H → Prop := Qr rs27 q.un
def Q27_1 [q : Hid (V → H → Prop)] : X → E → H → Prop := (@Q27 q)
def K27_1 (x0 x2 x4 x7 : V) (h : H) [q : Hid (V → H → Prop)] : Prop := @Bnd V (vLdA h 2 x4) ⟨fun v1 => @wF IP 84 [x2] h ⟨fun v2 h3 => @Bnd (V × H) (vMake 8 [(.i .u64 0)] x7 h3) ⟨fun r4 => @Bnd V (vBld [(.p none), (.i .i64 0), (.i .i64 0), .nsl, (.i .u64 0), .nsl, (.i .i64 0), (.b false), (.b false), (.i .i64 0), (.i .i64 0), (.i .i64 0), (.i .u64 0), (.i .u64 0), (.i .u64 0), (.i .u64 0), (.i .i64 0), (.b false), (.i .i64 0), (.i .i64 0), (.i .u64 0), (.i .u64 0), (.i .u64 0), (.i .u64 0), (.i .i64 0), (.b false), (.b false), (.i .i64 0), (.i .i64 0)] [(0, 1, x0), (1, 2, v1), (3, 1, v2), (5, 1, r4.1)]) ⟨fun v5 => @Bnd (V × H) (vBox v5 r4.2) ⟨fun r6 => @Chk (stdy true 2 x4 h h3) ⟨@Hid.un (V → H → Prop) q r6.1 r6.2⟩⟩⟩⟩⟩⟩
def J27_1 [q : Hid (V → H → Prop)] : E → H → Prop := fun e h => @K27_1 (e 0) (e 2) (e 4) (e 7) h q
theorem p27_1 [q : Hid (V → H → Prop)] : den IP c27_1 (@Q27_1 q) = (@J27_1 q) := by kernel_rfl
def Q27_2 [q : Hid (V → H → Prop)] : X → E → H → Prop := (Qx (@J27_1 q) (@Q27 q))
def K27_2 (x0 x2 x4 x7 x19 : V) (h : H) [q : Hid (V → H → Prop)] : Prop := @Sel x19 ⟨@Hid.un (V → H → Prop) q (.p none) h⟩ ⟨@K27_1 x0 x2 x4 x7 h q⟩
def J27_2 [q : Hid (V → H → Prop)] : E → H → Prop := fun e h => @K27_2 (e 0) (e 2) (e 4) (e 7) (e 19) h q
theorem p27_2 [q : Hid (V → H → Prop)] : den IP c27_2 (@Q27_2 q) = (@J27_2 q) := by kernel_rfl
def S27_8 [q : Hid (V → H → Prop)] : E → H → Prop := ((Qx (@J27_2 q) (Qx (@J27_1 q) (@Q27 q))) X.normal)
def K27_8 (x0 x2 x4 x7 x16 x18 : V) (h : H) [q : Hid (V → H → Prop)] : Prop := @Bnd V (vPick x16 (.b true) x18) ⟨fun v1 => @K27_2 x0 x2 x4 x7 v1 h q⟩
def J27_8 [q : Hid (V → H → Prop)] : E → H → Prop := fun e h => @K27_8 (e 0) (e 2) (e 4) (e 7) (e 16) (e 18) h q
theorem p27_8 [q : Hid (V → H → Prop)] : denOps IP o27_3 (@S27_8 q) = (@J27_8 q) := by
  refine Eq.trans (app_eq rfl rfl) ?_
  kernel_rfl
def S27_9 [q : Hid (V → H → Prop)] : E → H → Prop := ((Qx (@J27_2 q) (Qx (@J27_1 q) (@Q27 q))) X.normal)
def K27_9 (x0 x2 x4 x7 x12 x14 : V) (h : H) [q : Hid (V → H → Prop)] : Prop := @Bnd V (vPick x12 (.b true) x14) ⟨fun v1 => @Grd v1 false ⟨@Bnd V (bin .gtr x7 (.i .i64 4)) ⟨fun v2 => @K27_8 x0 x2 x4 x7 v1 v2 h q⟩⟩ ⟨@K27_8 x0 x2 x4 x7 v1 undefV h q⟩⟩
def J27_9 [q : Hid (V → H → Prop)] : E → H → Prop := fun e h => @K27_9 (e 0) (e 2) (e 4) (e 7) (e 12) (e 14) h q
theorem p27_9 [q : Hid (V → H → Prop)] : denOps IP o27_5 (@S27_9 q) = (@J27_9 q) := by
  refine Eq.trans (app_eq (grp_eq2 16 false rfl (@p27_8 q) rfl) rfl) ?_
  kernel_rfl
def K27 (x0 x1 x2 : V) (h : H) [q : Hid (V → H → Prop)] : Prop := @Bnd (V × H) (vBox x1 h) ⟨fun r1 => @Bnd V (vLens x2) ⟨fun v2 => @Bnd V (vEqz false .p x0 (.p none)) ⟨fun v3 => @Grd v3 false ⟨@Bnd V (bin .lss v2 (.i .i64 1)) ⟨fun v4 => @K27_9 x0 x2 r1.1 v2 v3 v4 r1.2 q⟩⟩ ⟨@K27_9 x0 x2 r1.1 v2 v3 undefV r1.2 q⟩⟩⟩⟩
theorem p27 [q : Hid (V → H → Prop)] : den IP c27 (@Q27 q) = fun e h => @K27 (e 0) (e 1) (e 2) h q := by
  refine Eq.trans (seq_eq (seq_eq (seq_eq (@p27_1 q) (seq_eq (@p27_2 q) (region_eq (app_eq (grp_eq2 12 false rfl (@p27_9 q) rfl) rfl)))) rfl) rfl) ?_
  kernel_rfl
theorem f27 (a0 a1 a2 : V) (h : H) (Q : V → H → Prop) : @wF IP 27 [a0, a1, a2] h ⟨Q⟩ ↔ @K27 a0 a1 a2 h ⟨Q⟩ := (Fnc_den (ip27) (by kernel_rfl) (by kernel_rfl) h Q).trans (iff_of_eq (congrFun (congrFun (@p27 ⟨Q⟩) _) h))
def rQ27 (C : Nat → List V → H → Rr) (k : Nat) : X → E → H → Rr := Qrr rs27
def rQ27_1 (C : Nat → List V → H → Rr) (k : Nat) : X → E → H → Rr := (rQ27 C k)
def rK27_1 (C : Nat → List V → H → Rr) (k : Nat) (x0 x2 x4 x7 : V) (h : H) : Rr := (rB (vLdA h 2 x4) fun v1 => (rK (C 84 [x2] h) fun v2 h3 => (rB (vMake 8 [(.i .u64 0)] x7 h3) fun r4 => (rB (vBld [(.p none), (.i .i64 0), (.i .i64 0), .nsl, (.i .u64 0), .nsl, (.i .i64 0), (.b false), (.b false), (.i .i64 0), (.i .i64 0), (.i .i64 0), (.i .u64 0), (.i .u64 0), (.i .u64 0), (.i .u64 0), (.i .i64 0), (.b false), (.i .i64 0), (.i .i64 0), (.i .u64 0), (.i .u64 0), (.i .u64 0), (.i .u64 0), (.i .i64 0), (.b false), (.b false), (.i .i64 0), (.i .i64 0)] [(0, 1, x0), (1, 2, v1), (3, 1, v2), (5, 1, r4.1)]) fun v5 => (rB (vBox v5 r4.2) fun r6 => (rC (stdy true 2 x4 h h3) (some (r6.1, r6.2))))))))
def rJ27_1 (C : Nat → List V → H → Rr) (k : Nat) : E → H → Rr := fun e h => (rK27_1 C k (e 0) (e 2) (e 4) (e 7) h)
theorem rp27_1 (C : Nat → List V → H → Rr) (k : Nat) : dn C k c27_1 (rQ27_1 C k) = (rJ27_1 C k) := by kernel_rfl
def rQ27_2 (C : Nat → List V → H → Rr) (k : Nat) : X → E → H → Rr := (Qxr (rJ27_1 C k) (rQ27 C k))
def rK27_2 (C : Nat → List V → H → Rr) (k : Nat) (x0 x2 x4 x7 x19 : V) (h : H) : Rr := (rS x19 (some ((.p none), h)) (rK27_1 C k x0 x2 x4 x7 h))
def rJ27_2 (C : Nat → List V → H → Rr) (k : Nat) : E → H → Rr := fun e h => (rK27_2 C k (e 0) (e 2) (e 4) (e 7) (e 19) h)
theorem rp27_2 (C : Nat → List V → H → Rr) (k : Nat) : dn C k c27_2 (rQ27_2 C k) = (rJ27_2 C k) := by kernel_rfl
def rS27_8 (C : Nat → List V → H → Rr) (k : Nat) : E → H → Rr := ((Qxr (rJ27_2 C k) (Qxr (rJ27_1 C k) (rQ27 C k))) X.normal)
def rK27_8 (C : Nat → List V → H → Rr) (k : Nat) (x0 x2 x4 x7 x16 x18 : V) (h : H) : Rr := (rB (vPick x16 (.b true) x18) fun v1 => (rK27_2 C k x0 x2 x4 x7 v1 h))
def rJ27_8 (C : Nat → List V → H → Rr) (k : Nat) : E → H → Rr := fun e h => (rK27_8 C k (e 0) (e 2) (e 4) (e 7) (e 16) (e 18) h)
theorem rp27_8 (C : Nat → List V → H → Rr) (k : Nat) : dnOps C o27_3 (rS27_8 C k) = (rJ27_8 C k) := by
  refine Eq.trans (rapp_eq rfl rfl) ?_
  kernel_rfl
def rS27_9 (C : Nat → List V → H → Rr) (k : Nat) : E → H → Rr := ((Qxr (rJ27_2 C k) (Qxr (rJ27_1 C k) (rQ27 C k))) X.normal)
def rK27_9 (C : Nat → List V → H → Rr) (k : Nat) (x0 x2 x4 x7 x12 x14 : V) (h : H) : Rr := (rB (vPick x12 (.b true) x14) fun v1 => (rG v1 false (rB (bin .gtr x7 (.i .i64 4)) fun v2 => (rK27_8 C k x0 x2 x4 x7 v1 v2 h)) (rK27_8 C k x0 x2 x4 x7 v1 undefV h)))
def rJ27_9 (C : Nat → List V → H → Rr) (k : Nat) : E → H → Rr := fun e h => (rK27_9 C k (e 0) (e 2) (e 4) (e 7) (e 12) (e 14) h)
theorem rp27_9 (C : Nat → List V → H → Rr) (k : Nat) : dnOps C o27_5 (rS27_9 C k) = (rJ27_9 C k) := by
  refine Eq.trans (rapp_eq (rgrp_eq2 16 false rfl (rp27_8 C k) rfl) rfl) ?_
  kernel_rfl
def rK27 (C : Nat → List V → H → Rr) (k : Nat) (x0 x1 x2 : V) (h : H) : Rr := (rB (vBox x1 h) fun r1 => (rB (vLens x2) fun v2 => (rB (vEqz false .p x0 (.p none)) fun v3 => (rG v3 false (rB (bin .lss v2 (.i .i64 1)) fun v4 => (rK27_9 C k x0 x2 r1.1 v2 v3 v4 r1.2)) (rK27_9 C k x0 x2 r1.1 v2 v3 undefV r1.2)))))
theorem rp27 (C : Nat → List V → H → Rr) (k : Nat) : dn C k c27 (rQ27 C k) = fun e h => (rK27 C k (e 0) (e 1) (e 2) h) := by
  refine Eq.trans (rseq_eq (rseq_eq (rseq_eq (rp27_1 C k) (rseq_eq (rp27_2 C k) (rregion_eq (rapp_eq (rgrp_eq2 12 false rfl (rp27_9 C k) rfl) rfl)))) rfl) rfl) ?_
  kernel_rfl
def F27 : RF := fun C k a h => match a with
  | [a0, a1, a2] => rK27 C k a0 a1 a2 h
  | _ => none
theorem ro27 : RunOK IP 27 F27 := ⟨ir27, ip27, by kernel_rfl, fun C k a h r e => by
  unfold F27 at e
  split at e
  · exact ⟨by kernel_rfl, (congrFun (congrFun (rp27 C k) _) h).trans e⟩
  · cases e⟩
theorem ip58 : IP 58 = some ir58 := rfl
def rQ58 (C : Nat → List V → H → Rr) (k : Nat) : X → E → H → Rr := Qrr rs58
def rQ58_1 (C : Nat → List V → H → Rr) (k : Nat) : X → E → H → Rr := (rQ58 C k)
def rQ58_2 (C : Nat → List V → H → Rr) (k : Nat) : X → E → H → Rr := (rQ58_1 C k)
def rK58_2 (C : Nat → List V → H → Rr) (k : Nat) (h : H) : Rr := (some ((.i .i64 0), h))
def rJ58_2 (C : Nat → List V → H → Rr) (k : Nat) : E → H → Rr := fun e h => (rK58_2 C k h)
theorem rp58_2 (C : Nat → List V → H → Rr) (k : Nat) : dn C k c58_2 (rQ58_2 C k) = (rJ58_2 C k) := by kernel_rfl
def rR58_3 (C : Nat → List V → H → Rr) (k : Nat) : X → E → H → Rr := (Qbr 0 (Qxr (rJ58_2 C k) (rQ58_1 C k)))
def rQ58_3 (C : Nat → List V → H → Rr) (k : Nat) (g58_3 : V → V → V → V → H → Rr) : X → E → H → Rr := Qxr (fun e h => g58_3 (e 0) (e 3) (e 26) (e 27) h) (rR58_3 C k)
def rQ58_4 (C : Nat → List V → H → Rr) (k : Nat) (g58_3 : V → V → V → V → H → Rr) : X → E → H → Rr := (rQ58_3 C k g58_3)
def rK58_4 (C : Nat → List V → H → Rr) (k : Nat) (g58_3 : V → V → V → V → H → Rr) (x0 x3 x26 x27 : V) (h : H) : Rr := (rB (bin .add x27 (.i .i64 1)) fun v1 => (g58_3 x0 x3 x26 v1 h))
def rJ58_4 (C : Nat → List V → H → Rr) (k : Nat) (g58_3 : V → V → V → V → H → Rr) : E → H → Rr := fun e h => (rK58_4 C k g58_3 (e 0) (e 3) (e 26) (e 27) h)
theorem rp58_4 (C : Nat → List V → H → Rr) (k : Nat) (g58_3 : V → V → V → V → H → Rr) : dn C k c58_4 (rQ58_4 C k g58_3) = (rJ58_4 C k g58_3) := by kernel_rfl
def rR58_5 (C : Nat → List V → H → Rr) (k : Nat) (g58_3 : V → V → V → V → H → Rr) : X → E → H → Rr := (Qbr 2 (Qbr 1 (Qxr (rJ58_4 C k g58_3) (rQ58_3 C k g58_3))))
def rQ58_5 (C : Nat → List V → H → Rr) (k : Nat) (g58_3 : V → V → V → V → H → Rr) (g58_5 : V → V → V → V → V → V → H → Rr) : X → E → H → Rr := Qxr (fun e h => g58_5 (e 0) (e 3) (e 5) (e 26) (e 27) (e 38) h) (rR58_5 C k g58_3)
def rL58_5 (C : Nat → List V → H → Rr) (k : Nat) (g58_3 : V → V → V → V → H → Rr) (g58_5 : V → V → V → V → V → V → H → Rr) (x0 x3 x5 x26 x27 x38 : V) (h : H) : Rr := (rB (bin .lss x38 (.i .i64 3)) fun v1 => (rS v1 (rB (vLdA h 2 x3) fun v2 => (rB (vCvi .u64 x5) fun v3 => (rK (C 106 [v2, v3] h) fun v4 h5 => (rB (bin .add v4 (.i .i64 1)) fun v6 => (rB (bin .add v6 x38) fun v7 => (rK (C 85 [x0, v7, (.i .u64 0)] h5) fun v8 h9 => (rB (bin .add x38 (.i .i64 1)) fun v10 => (g58_5 x0 x3 x5 x26 x27 v10 h9)))))))) (rK58_4 C k g58_3 x0 x3 x26 x27 h)))
theorem rp58_5 (C : Nat → List V → H → Rr) (k : Nat) (g58_3 : V → V → V → V → H → Rr) (g58_5 : V → V → V → V → V → V → H → Rr) : dn C k c58_5 (rQ58_5 C k g58_3 g58_5) = fun e h => (rL58_5 C k g58_3 g58_5 (e 0) (e 3) (e 5) (e 26) (e 27) (e 38) h) := by kernel_rfl
def rW58_5 (C : Nat → List V → H → Rr) (k : Nat) (g58_3 : V → V → V → V → H → Rr) (x0 x3 x5 x26 x27 x38 : V) (h : H) : Rr := rFix k (fun (g : V × V × V × V × V × V × Unit → H → Rr) (x : V × V × V × V × V × V × Unit) h => rL58_5 C k g58_3 (fun y0 y3 y5 y26 y27 y38 h => g (y0, y3, y5, y26, y27, y38, ()) h) x.1 x.2.1 x.2.2.1 x.2.2.2.1 x.2.2.2.2.1 x.2.2.2.2.2.1 h) (x0, x3, x5, x26, x27, x38, ()) h
theorem rn58_5 (C : Nat → List V → H → Rr) (k : Nat) (g58_3 : V → V → V → V → H → Rr) : ∀ g : V × V × V × V × V × V × Unit → H → Rr, dn C k c58_5 (Qxr (fun e h => g ((fun e : E => ((e 0, e 3, e 5, e 26, e 27, e 38, ()) : V × V × V × V × V × V × Unit)) e) h) (rR58_5 C k g58_3)) = fun e h => (fun (g : V × V × V × V × V × V × Unit → H → Rr) (x : V × V × V × V × V × V × Unit) h => rL58_5 C k g58_3 (fun y0 y3 y5 y26 y27 y38 h => g (y0, y3, y5, y26, y27, y38, ()) h) x.1 x.2.1 x.2.2.1 x.2.2.2.1 x.2.2.2.2.1 x.2.2.2.2.2.1 h) g ((fun e : E => ((e 0, e 3, e 5, e 26, e 27, e 38, ()) : V × V × V × V × V × V × Unit)) e) h := fun g => rp58_5 C k g58_3 (fun y0 y3 y5 y26 y27 y38 h => g (y0, y3, y5, y26, y27, y38, ()) h)
theorem rw58_5 (C : Nat → List V → H → Rr) (k : Nat) (g58_3 : V → V → V → V → H → Rr) : dn C k (.loop c58_5) (rR58_5 C k g58_3) = fun e h => (rW58_5 C k g58_3 (e 0) (e 3) (e 5) (e 26) (e 27) (e 38) h) := rloop_eq (fun e : E => ((e 0, e 3, e 5, e 26, e 27, e 38, ()) : V × V × V × V × V × V × Unit)) (fun (g : V × V × V × V × V × V × Unit → H → Rr) (x : V × V × V × V × V × V × Unit) h => rL58_5 C k g58_3 (fun y0 y3 y5 y26 y27 y38 h => g (y0, y3, y5, y26, y27, y38, ()) h) x.1 x.2.1 x.2.2.1 x.2.2.2.1 x.2.2.2.2.1 x.2.2.2.2.2.1 h) (rn58_5 C k g58_3)
def rL58_3 (C : Nat → List V → H → Rr) (k : Nat) (g58_3 : V → V → V → V → H → Rr) (x0 x3 x26 x27 : V) (h : H) : Rr := (rB (bin .lss x27 x26) fun v1 => (rS v1 (rB (vLdA h 2 x3) fun v2 => (rB (vCvi .u64 x27) fun v3 => (rK (C 106 [v2, v3] h) fun v4 h5 => (rB (vCvi .u64 x27) fun v6 => (rK (C 85 [x0, v4, v6] h5) fun v7 h8 => (rW58_5 C k g58_3 x0 x3 x27 x26 x27 (.i .i64 0) h8)))))) (rK58_2 C k h)))
theorem rp58_3 (C : Nat → List V → H → Rr) (k : Nat) (g58_3 : V → V → V → V → H → Rr) : dn C k c58_3 (rQ58_3 C k g58_3) = fun e h => (rL58_3 C k g58_3 (e 0) (e 3) (e 26) (e 27) h) := by
  refine Eq.trans (rseq_eq (rseq_eq (rseq_eq (rp58_4 C k g58_3) (rblock_eq (rseq_eq (rseq_eq (rseq_eq (rblock_eq (rw58_5 C k g58_3)) rfl) rfl) rfl))) rfl) rfl) ?_
  kernel_rfl
def rW58_3 (C : Nat → List V → H → Rr) (k : Nat) (x0 x3 x26 x27 : V) (h : H) : Rr := rFix k (fun (g : V × V × V × V × Unit → H → Rr) (x : V × V × V × V × Unit) h => rL58_3 C k (fun y0 y3 y26 y27 h => g (y0, y3, y26, y27, ()) h) x.1 x.2.1 x.2.2.1 x.2.2.2.1 h) (x0, x3, x26, x27, ()) h
theorem rn58_3 (C : Nat → List V → H → Rr) (k : Nat) : ∀ g : V × V × V × V × Unit → H → Rr, dn C k c58_3 (Qxr (fun e h => g ((fun e : E => ((e 0, e 3, e 26, e 27, ()) : V × V × V × V × Unit)) e) h) (rR58_3 C k)) = fun e h => (fun (g : V × V × V × V × Unit → H → Rr) (x : V × V × V × V × Unit) h => rL58_3 C k (fun y0 y3 y26 y27 h => g (y0, y3, y26, y27, ()) h) x.1 x.2.1 x.2.2.1 x.2.2.2.1 h) g ((fun e : E => ((e 0, e 3, e 26, e 27, ()) : V × V × V × V × Unit)) e) h := fun g => rp58_3 C k (fun y0 y3 y26 y27 h => g (y0, y3, y26, y27, ()) h)
theorem rw58_3 (C : Nat → List V → H → Rr) (k : Nat) : dn C k (.loop c58_3) (rR58_3 C k) = fun e h => (rW58_3 C k (e 0) (e 3) (e 26) (e 27) h) := rloop_eq (fun e : E => ((e 0, e 3, e 26, e 27, ()) : V × V × V × V × Unit)) (fun (g : V × V × V × V × Unit → H → Rr) (x : V × V × V × V × Unit) h => rL58_3 C k (fun y0 y3 y26 y27 h => g (y0, y3, y26, y27, ()) h) x.1 x.2.1 x.2.2.1 x.2.2.2.1 h) (rn58_3 C k)
def rK58_1 (C : Nat → List V → H → Rr) (k : Nat) (x0 x3 : V) (h : H) : Rr := (rB (vFa 0 x3) fun v1 => (rB (vLd1 h v1) fun v2 => (rK (C 85 [x0, v2, (.i .u64 0)] h) fun v3 h4 => (rB (vFa 1 x3) fun v5 => (rB (vLd1 h4 v5) fun v6 => (rW58_3 C k x0 x3 v6 (.i .i64 0) h4))))))
def rJ58_1 (C : Nat → List V → H → Rr) (k : Nat) : E → H → Rr := fun e h => (rK58_1 C k (e 0) (e 3) h)
theorem rp58_1 (C : Nat → List V → H → Rr) (k : Nat) : dn C k c58_1 (rQ58_1 C k) = (rJ58_1 C k) := by
  refine Eq.trans (rseq_eq (rseq_eq (rp58_2 C k) (rseq_eq (rblock_eq (rw58_3 C k)) rfl)) rfl) ?_
  kernel_rfl
def rQ58_6 (C : Nat → List V → H → Rr) (k : Nat) : X → E → H → Rr := (Qxr (rJ58_1 C k) (rQ58 C k))
def rK58_6 (C : Nat → List V → H → Rr) (k : Nat) (x0 x3 x20 : V) (h : H) : Rr := (rS x20 (some ((.i .i64 1), h)) (rK58_1 C k x0 x3 h))
def rJ58_6 (C : Nat → List V → H → Rr) (k : Nat) : E → H → Rr := fun e h => (rK58_6 C k (e 0) (e 3) (e 20) h)
theorem rp58_6 (C : Nat → List V → H → Rr) (k : Nat) : dn C k c58_6 (rQ58_6 C k) = (rJ58_6 C k) := by kernel_rfl
def rS58_10 (C : Nat → List V → H → Rr) (k : Nat) : List (E × H) → E → H → Rr := (fun st e h => rChk o58_9 ((e, h) :: st) 14 [(5, 8), (5, 11)] ((Qxr (rJ58_6 C k) (Qxr (rJ58_1 C k) (rQ58 C k))) X.normal e h))
def rK58_10 (C : Nat → List V → H → Rr) (k : Nat) (k11_h : H) (k12_h : H) (k5_10 : V) (k5_11 : V) (k8_h : H) (k9_h : H) (x0 x3 x10 x19 : V) (h : H) : Rr := (rB (vPick x10 (.b true) x19) fun v1 => (rC (stdyG k5_10 false (stdy false 1 k5_11 k8_h k9_h)) (rC (stdyG k5_10 false (stdy false 1 k5_11 k11_h k12_h)) (rK58_6 C k x0 x3 v1 h))))
def rJ58_10 (C : Nat → List V → H → Rr) (k : Nat) : List (E × H) → E → H → Rr := fun st e h => (rK58_10 C k (List.getD st 1 eh0).2 (List.getD st 0 eh0).2 ((List.getD st 7 eh0).1 10) ((List.getD st 7 eh0).1 11) (List.getD st 4 eh0).2 (List.getD st 3 eh0).2 (e 0) (e 3) (e 10) (e 19) h)
theorem rp58_10 (C : Nat → List V → H → Rr) (k : Nat) : dnT C o58_7 (rS58_10 C k) = (rJ58_10 C k) := by
  refine Eq.trans (rtapp_eq rfl rfl) ?_
  kernel_rfl
def rK58 (C : Nat → List V → H → Rr) (k : Nat) (x0 x1 : V) (h : H) : Rr := (rB (vBox x1 h) fun r1 => (rB (vLdA r1.2 2 r1.1) fun v2 => (rK (C 103 [v2] r1.2) fun v3 h4 => (rB (un .not v3) fun v5 => (rG v5 false (rB (vFa 0 r1.1) fun v6 => (rB (vLd1 h4 v6) fun v7 => (rB (vFa 1 r1.1) fun v8 => (rB (vLd1 h4 v8) fun v9 => (rK (C 104 [v9] h4) fun v10 h11 => (rB (bin .add v7 v10) fun v12 => (rK (C 105 [x0] h11) fun v13 h14 => (rB (bin .gtr v12 v13) fun v15 => (rK58_10 C k h11 h14 v5 v6 h4 h11 x0 r1.1 v5 v15 h14))))))))) (rK58_10 C k h4 h4 v5 undefV h4 h4 x0 r1.1 v5 undefV h4))))))
theorem rp58 (C : Nat → List V → H → Rr) (k : Nat) : dn C k c58 (rQ58 C k) = fun e h => (rK58 C k (e 0) (e 1) h) := by
  refine Eq.trans (rseq_eq (rseq_eq (rp58_1 C k) (rseq_eq (rp58_6 C k) (rdraw_eq (rtapp_eq (rtgrp_eq2 10 false rfl (rp58_10 C k) rfl) rfl)))) rfl) ?_
  kernel_rfl
def F58 : RF := fun C k a h => match a with
  | [a0, a1] => rK58 C k a0 a1 h
  | _ => none
theorem ro58 : RunOK IP 58 F58 := ⟨ir58, ip58, by kernel_rfl, fun C k a h r e => by
  unfold F58 at e
  split at e
  · exact ⟨by kernel_rfl, (congrFun (congrFun (rp58 C k) _) h).trans e⟩
  · cases e⟩
theorem ip60 : IP 60 = some ir60 := rfl
def rQ60 (C : Nat → List V → H → Rr) (k : Nat) : X → E → H → Rr := Qrr rs60
def rK60 (C : Nat → List V → H → Rr) (k : Nat) (x0 : V) (h : H) : Rr := (rB (vBox x0 h) fun r1 => (rB (some (.p (some (H.nx r1.2, 0)), H.new r1.2 ⟨false, [(.i .u64 0), (.i .u64 0), (.i .u64 0)]⟩)) fun r2 => (rB (vLdA r2.2 11 r1.1) fun v3 => (rK (C 107 [v3] r2.2) fun v4 h5 => (rB (un .not v4) fun v6 => (rS v6 (rB (vBld [(.i .u64 0), (.i .u64 0), (.i .u64 0)] []) fun v7 => (rB (vStore h5 3 r2.1 v7) fun r8 => (rB (vLdA r8.2 3 r2.1) fun v9 => (some ((.tup [v9, (.b false)]), r8.2))))) (rB (vLdA h5 2 (.p (some (0, 0)))) fun v10 => (rB (vFa 0 r1.1) fun v11 => (rB (vLd1 h5 v11) fun v12 => (rB (vCvi .u64 v12) fun v13 => (rK (C 108 [v10, (.i .u64 0), v13] h5) fun v14 h15 => (rB (vLdA h15 2 (.p (some (1, 0)))) fun v16 => (rB (vFa 1 r1.1) fun v17 => (rB (vLd1 h15 v17) fun v18 => (rB (vCvi .u64 v18) fun v19 => (rK (C 108 [v16, v14, v19] h15) fun v20 h21 => (rB (vLdA h21 2 (.p (some (2, 0)))) fun v22 => (rB (vFa 2 r1.1) fun v23 => (rB (vLd1 h21 v23) fun v24 => (rB (vCvi .u64 v24) fun v25 => (rK (C 108 [v22, v20, v25] h21) fun v26 h27 => (rB (vLdA h27 2 (.p (some (3, 0)))) fun v28 => (rB (vFa 3 r1.1) fun v29 => (rB (vLd1 h27 v29) fun v30 => (rB (vCvi .u64 v30) fun v31 => (rK (C 108 [v28, v26, v31] h27) fun v32 h33 => (rB (vLdA h33 2 (.p (some (4, 0)))) fun v34 => (rB (vFa 6 r1.1) fun v35 => (rB (vLd1 h33 v35) fun v36 => (rB (vCvi .u64 v36) fun v37 => (rK (C 108 [v34, v32, v37] h33) fun v38 h39 => (rB (vLdA h39 2 (.p (some (5, 0)))) fun v40 => (rB (vFa 7 r1.1) fun v41 => (rB (vLd1 h39 v41) fun v42 => (rK (C 109 [v42] h39) fun v43 h44 => (rK (C 108 [v40, v38, v43] h44) fun v45 h46 => (rC (stdy true 2 (.p (some (5, 0))) h39 h44) (rB (vLdA h46 2 (.p (some (6, 0)))) fun v47 => (rB (vFa 8 r1.1) fun v48 => (rB (vLd1 h46 v48) fun v49 => (rK (C 109 [v49] h46) fun v50 h51 => (rK (C 108 [v47, v45, v50] h51) fun v52 h53 => (rC (stdy true 2 (.p (some (6, 0))) h46 h51) (rB (vLdA h53 2 (.p (some (7, 0)))) fun v54 => (rB (vFa 4 r1.1) fun v55 => (rB (vLd1 h53 v55) fun v56 => (rB (vCvi .u64 v56) fun v57 => (rK (C 108 [v54, v52, v57] h53) fun v58 h59 => (rB (vLdA h59 2 (.p (some (8, 0)))) fun v60 => (rB (vFa 5 r1.1) fun v61 => (rB (vLd1 h59 v61) fun v62 => (rB (vCvi .u64 v62) fun v63 => (rB (vFa 10 r1.1) fun v64 => (rB (vLd1 h59 v64) fun v65 => (rB (vCvi .u64 v65) fun v66 => (rK (C 108 [v60, v63, v66] h59) fun v67 h68 => (rB (vFa 9 r1.1) fun v69 => (rB (vLd1 h68 v69) fun v70 => (rB (vCvi .u64 v70) fun v71 => (rB (vBld [(.i .u64 0), (.i .u64 0), (.i .u64 0)] [(0, 1, v58), (1, 1, v67), (2, 1, v71)]) fun v72 => (rB (vStore h68 3 r2.1 v72) fun r73 => (rC (stdy false 1 v69 h59 h68) (rB (vLdA r73.2 3 r2.1) fun v74 => (some ((.tup [v74, (.b true)]), r73.2)))))))))))))))))))))))))))))))))))))))))))))))))))))))))))))))))
theorem rp60 (C : Nat → List V → H → Rr) (k : Nat) : dn C k c60 (rQ60 C k) = fun e h => (rK60 C k (e 0) h) := by kernel_rfl
def F60 : RF := fun C k a h => match a with
  | [a0] => rK60 C k a0 h
  | _ => none
theorem ro60 : RunOK IP 60 F60 := ⟨ir60, ip60, by kernel_rfl, fun C k a h r e => by
  unfold F60 at e
  split at e
  · exact ⟨by kernel_rfl, (congrFun (congrFun (rp60 C k) _) h).trans e⟩
  · cases e⟩
theorem ip61 : IP 61 = some ir61 := rfl
def rQ61 (C : Nat → List V → H → Rr) (k : Nat) : X → E → H → Rr := Qrr rs61
def rK61 (C : Nat → List V → H → Rr) (k : Nat) (x0 x1 : V) (h : H) : Rr := (rB (vBox x0 h) fun r1 => (rB (vBox x1 r1.2) fun r2 => (rB (some (.p (some (H.nx r2.2, 0)), H.new r2.2 ⟨false, [(.i .i64 0), (.i .i64 0), (.i .u64 0), (.i .u64 0), (.i .u64 0), (.i .u64 0), (.i .i64 0), (.b false), (.b false)]⟩)) fun r3 => (rB (vLdA r3.2 2 r1.1) fun v4 => (rB (vLdA r3.2 3 r2.1) fun v5 => (rB (vBld [(.i .i64 0), (.i .i64 0), (.i .u64 0), (.i .u64 0), (.i .u64 0), (.i .u64 0), (.i .i64 0), (.b false), (.b false)] [(0, 2, v4), (2, 3, v5)]) fun v6 => (rB (vStore r3.2 9 r3.1 v6) fun r7 => (rB (vLdA r7.2 9 r3.1) fun v8 => (some (v8, r7.2))))))))))
theorem rp61 (C : Nat → List V → H → Rr) (k : Nat) : dn C k c61 (rQ61 C k) = fun e h => (rK61 C k (e 0) (e 1) h) := by kernel_rfl
def F61 : RF := fun C k a h => match a with
  | [a0, a1] => rK61 C k a0 a1 h
  | _ => none
theorem ro61 : RunOK IP 61 F61 := ⟨ir61, ip61, by kernel_rfl, fun C k a h r e => by
  unfold F61 at e
  split at e
  · exact ⟨by kernel_rfl, (congrFun (congrFun (rp61 C k) _) h).trans e⟩
  · cases e⟩
theorem ip62 : IP 62 = some ir62 := rfl
def rQ62 (C : Nat → List V → H → Rr) (k : Nat) : X → E → H → Rr := Qrr rs62
def rQ62_1 (C : Nat → List V → H → Rr) (k : Nat) : X → E → H → Rr := (rQ62 C k)
def rK62_1 (C : Nat → List V → H → Rr) (k : Nat) (x2 x4 : V) (h : H) : Rr := (rB (vLdA h 9 x2) fun v1 => (rB (vStore h 9 x4 v1) fun r2 => (rB (vLdA r2.2 9 x4) fun v3 => (some (v3, r2.2)))))
def rJ62_1 (C : Nat → List V → H → Rr) (k : Nat) : E → H → Rr := fun e h => (rK62_1 C k (e 2) (e 4) h)
theorem rp62_1 (C : Nat → List V → H → Rr) (k : Nat) : dn C k c62_1 (rQ62_1 C k) = (rJ62_1 C k) := by kernel_rfl
def rK62 (C : Nat → List V → H → Rr) (k : Nat) (x0 x1 : V) (h : H) : Rr := (rB (vBox x0 h) fun r1 => (rB (some (.p (some (H.nx r1.2, 0)), H.new r1.2 ⟨false, [(.i .i64 0), (.i .i64 0), (.i .u64 0), (.i .u64 0), (.i .u64 0), (.i .u64 0), (.i .i64 0), (.b false), (.b false)]⟩)) fun r2 => (rB (vLdA r2.2 9 r1.1) fun v3 => (rK (C 63 [v3] r2.2) fun v4 h5 => (rB (vExt v4 0) fun v6 => (rB (vExt v4 1) fun v7 => (rS v7 (rB (vLdA h5 9 r1.1) fun v8 => (rB (vStore h5 9 r2.1 v8) fun r9 => (rB (vLdA r9.2 9 r2.1) fun v10 => (some (v10, r9.2))))) (rB (vFa 0 r1.1) fun v11 => (rB (vLdA h5 2 v11) fun v12 => (rK (C 103 [v12] h5) fun v13 h14 => (rB (un .not v13) fun v15 => (rS v15 (rB (vFa 8 r1.1) fun v16 => (rB (vStore h14 1 v16 (.b true)) fun r17 => (rB (vLdA r17.2 9 r1.1) fun v18 => (rB (vStore r17.2 9 r2.1 v18) fun r19 => (rB (vLdA r19.2 9 r2.1) fun v20 => (some (v20, r19.2))))))) (rB (vFa 6 r1.1) fun v21 => (rB (vLd1 h14 v21) fun v22 => (rB (bin .eql v22 (.i .i64 0)) fun v23 => (rS v23 (rB (vFa 0 r1.1) fun v24 => (rB (vLdA h14 2 v24) fun v25 => (rK (C 111 [v25] h14) fun v26 h27 => (rK (C 110 [x1, v26] h27) fun v28 h29 => (rB (vFa 5 r1.1) fun v30 => (rB (vStore h29 1 v30 v28) fun r31 => (rB (vFa 6 r1.1) fun v32 => (rB (vStore r31.2 1 v32 (.i .i64 1)) fun r33 => (rK62_1 C k r1.1 r2.1 r33.2))))))))) (rB (bin .eql v22 (.i .i64 1)) fun v34 => (rS v34 (rB (vLdA h14 9 r1.1) fun v35 => (rB (vFa 0 r1.1) fun v36 => (rB (vLdA h14 2 v36) fun v37 => (rB (vFa 5 r1.1) fun v38 => (rB (vLd1 h14 v38) fun v39 => (rK (C 113 [v37, v39] h14) fun v40 h41 => (rK (C 110 [x1, v40] h41) fun v42 h43 => (rK (C 112 [v35, v42] h43) fun v44 h45 => (rB (vStore h45 9 r1.1 v44) fun r46 => (rC (stdy true 9 r1.1 h14 h41) (rC (stdy true 9 r1.1 h41 h43) (rK62_1 C k r1.1 r2.1 r46.2)))))))))))) (rB (bin .eql v22 (.i .i64 2)) fun v47 => (rS v47 (rB (vFa 6 r1.1) fun v48 => (rB (vStore h14 1 v48 (.i .i64 0)) fun r49 => (rB (vFa 0 r1.1) fun v50 => (rB (vLdA r49.2 2 v50) fun v51 => (rK (C 111 [v51] r49.2) fun v52 h53 => (rB (vFa 5 r1.1) fun v54 => (rB (vLd1 h53 v54) fun v55 => (rB (vFa 5 r1.1) fun v56 => (rB (vLd1 h53 v56) fun v57 => (rB (bin .add v57 (.i .u64 1)) fun v58 => (rK (C 114 [x1, v52, v55, v58] h53) fun v59 h60 => (rC (stdy false 1 v54 r49.2 h53) (rC (stdy false 1 v56 r49.2 h53) (rS v59 (rB (vFa 6 r1.1) fun v61 => (rB (vStore h60 1 v61 (.i .i64 3)) fun r62 => (rK62_1 C k r1.1 r2.1 r62.2))) (rK62_1 C k r1.1 r2.1 h60))))))))))))))) (rB (bin .eql v22 (.i .i64 6)) fun v63 => (rS v63 (rB (vFa 0 r1.1) fun v64 => (rB (vLdA h14 2 v64) fun v65 => (rB (vFa 5 r1.1) fun v66 => (rB (vLd1 h14 v66) fun v67 => (rK (C 113 [v65, v67] h14) fun v68 h69 => (rB (vFa 5 r1.1) fun v70 => (rB (vLd1 h69 v70) fun v71 => (rB (bin .add v71 (.i .u64 1)) fun v72 => (rK (C 85 [x1, v68, v72] h69) fun v73 h74 => (rC (stdy false 1 v70 h14 h69) (rB (vFa 6 r1.1) fun v75 => (rB (vStore h74 1 v75 (.i .i64 7)) fun r76 => (rK62_1 C k r1.1 r2.1 r76.2))))))))))))) (rB (vFa 6 r1.1) fun v77 => (rB (vLd1 h14 v77) fun v78 => (rB (bin .sub v78 (.i .i64 3)) fun v79 => (rB (vFa 0 r1.1) fun v80 => (rB (vLdA h14 2 v80) fun v81 => (rB (vFa 5 r1.1) fun v82 => (rB (vLd1 h14 v82) fun v83 => (rK (C 115 [v81, v83, v79] h14) fun v84 h85 => (rB (vFa 2 r1.1) fun v86 => (rB (vIaa 1 3 v86 v79) fun v87 => (rB (vLd1 h85 v87) fun v88 => (rK (C 85 [x1, v84, v88] h85) fun v89 h90 => (rC (stdy false 1 v87 h14 h85) (rB (vFa 6 r1.1) fun v91 => (rB (vLd1 h90 v91) fun v92 => (rB (bin .add v92 (.i .i64 1)) fun v93 => (rB (vFa 6 r1.1) fun v94 => (rB (vStore h90 1 v94 v93) fun r95 => (rK62_1 C k r1.1 r2.1 r95.2)))))))))))))))))))))))))))))))))))))))))
theorem rp62 (C : Nat → List V → H → Rr) (k : Nat) : dn C k c62 (rQ62 C k) = fun e h => (rK62 C k (e 0) (e 1) h) := by
  refine Eq.trans (rseq_eq (rseq_eq (rseq_eq (rseq_eq (rp62_1 C k) rfl) rfl) rfl) rfl) ?_
  kernel_rfl
def F62 : RF := fun C k a h => match a with
  | [a0, a1] => rK62 C k a0 a1 h
  | _ => none
theorem ro62 : RunOK IP 62 F62 := ⟨ir62, ip62, by kernel_rfl, fun C k a h r e => by
  unfold F62 at e
  split at e
  · exact ⟨by kernel_rfl, (congrFun (congrFun (rp62 C k) _) h).trans e⟩
  · cases e⟩
theorem ip63 : IP 63 = some ir63 := rfl
def rQ63 (C : Nat → List V → H → Rr) (k : Nat) : X → E → H → Rr := Qrr rs63
def rK63 (C : Nat → List V → H → Rr) (k : Nat) (x0 : V) (h : H) : Rr := (rB (vBox x0 h) fun r1 => (rB (vFa 8 r1.1) fun v2 => (rB (vLd1 r1.2 v2) fun v3 => (rS v3 (some ((.tup [(.i .i64 3), (.b true)]), r1.2)) (rB (vFa 6 r1.1) fun v4 => (rB (vLd1 r1.2 v4) fun v5 => (rB (bin .eql v5 (.i .i64 7)) fun v6 => (rS v6 (some ((.tup [(.i .i64 0), (.b true)]), r1.2)) (some ((.tup [(.i .i64 0), (.b false)]), r1.2))))))))))
theorem rp63 (C : Nat → List V → H → Rr) (k : Nat) : dn C k c63 (rQ63 C k) = fun e h => (rK63 C k (e 0) h) := by kernel_rfl
def F63 : RF := fun C k a h => match a with
  | [a0] => rK63 C k a0 h
  | _ => none
theorem ro63 : RunOK IP 63 F63 := ⟨ir63, ip63, by kernel_rfl, fun C k a h r e => by
  unfold F63 at e
  split at e
  · exact ⟨by kernel_rfl, (congrFun (congrFun (rp63 C k) _) h).trans e⟩
  · cases e⟩
theorem ip64 : IP 64 = some ir64 := rfl
def rQ64 (C : Nat → List V → H → Rr) (k : Nat) : X → E → H → Rr := Qrr rs64
def rK64 (C : Nat → List V → H → Rr) (k : Nat) (x0 : V) (h : H) : Rr := (rB (vEqz true .p x0 (.p none)) fun v1 => (rS v1 (rB (vNilc x0) fun v2 => (rB (vFa 1 v2) fun v3 => (rB (vStore h 1 v3 V.nsl) fun r4 => (some ((.tup []), r4.2))))) (some ((.tup []), h))))
theorem rp64 (C : Nat → List V → H → Rr) (k : Nat) : dn C k c64 (rQ64 C k) = fun e h => (rK64 C k (e 0) h) := by kernel_rfl
def F64 : RF := fun C k a h => match a with
  | [a0] => rK64 C k a0 h
  | _ => none
theorem ro64 : RunOK IP 64 F64 := ⟨ir64, ip64, by kernel_rfl, fun C k a h r e => by
  unfold F64 at e
  split at e
  · exact ⟨by kernel_rfl, (congrFun (congrFun (rp64 C k) _) h).trans e⟩
  · cases e⟩
end Go.Proofs.YtbbencnhecokiaaGreatDoor.IrPostNone
