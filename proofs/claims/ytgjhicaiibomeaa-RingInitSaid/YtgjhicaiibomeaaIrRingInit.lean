/-
  The abstract machine's text of the functions that RingInit reaches, and: it is the loaded program's. Then the functions without temporaries.
-/
import Derived.Test.YtgjhicaiibomeaaProg
import Derived.Test.YtgjhicaiibomeaaMxT
import Derived.Test.YtgjhicaiibomeaaMxU
namespace Go.Proofs.Ytgjhicaiibomeaa.IrRingInit
open Go Mx
set_option maxRecDepth 100000
set_option linter.unusedVariables false
/-! cableway/cablewaylaw06.RingInit -/
def rs10 : List RV := [(.t 6)]
def o10_3 : List IOp := [⟨some 122, .pu (.pick (.t 102) (.t 121) (.c (.b false))), none⟩, ⟨some 6, .pu (.mov (.t 122)), none⟩] ++ []
def o10_4 : List IOp := [⟨some 120, .pu (.pick (.t 113) (.t 119) (.c (.b false))), some (102, true)⟩, ⟨some 121, .pu (.eqz false .b (.t 110) (.t 120)), some (102, true)⟩] ++ o10_3
def o10_5 : List IOp := [⟨some 114, .pu (.mov (.t 11)), some (113, true)⟩, ⟨some 115, .pu (.bin .add (.t 114) (.c (.i .i64 1))), some (113, true)⟩, ⟨some 116, .pu (.mov (.t 7)), some (113, true)⟩, ⟨some 117, .pu (.bin .rem (.t 115) (.t 116)), some (113, true)⟩, ⟨some 118, .pu (.mov (.t 11)), some (113, true)⟩, ⟨some 119, .pu (.bin .neq (.t 117) (.t 118)), some (113, true)⟩] ++ o10_4
def o10_6 : List IOp := [⟨some 103, .pu (.mov (.t 9)), some (102, true)⟩, ⟨some 104, .ld true 2 (.t 8), some (102, true)⟩, ⟨some 105, .pu (.mov (.t 11)), some (102, true)⟩, ⟨some 106, .pu (.bin .add (.t 105) (.c (.i .i64 1))), some (102, true)⟩, ⟨some 107, .pu (.mov (.t 7)), some (102, true)⟩, ⟨some 108, .pu (.bin .rem (.t 106) (.t 107)), some (102, true)⟩, ⟨some 109, .pu (.cvi .u64 (.t 108)), some (102, true)⟩, ⟨some 110, .ef (.call 65 [(.t 103), (.t 104), (.t 109)]), some (102, true)⟩, ⟨some 111, .pu (.mov (.t 7)), some (102, true)⟩, ⟨some 112, .pu (.bin .gtr (.t 111) (.c (.i .i64 1))), some (102, true)⟩, ⟨some 113, .pu (.mov (.t 112)), some (102, true)⟩] ++ o10_5
def o10_7 : List IOp := [⟨some 101, .pu (.pick (.t 93) (.t 100) (.c (.b false))), none⟩, ⟨some 102, .pu (.mov (.t 101)), none⟩] ++ o10_6
def o10_8 : List IOp := [⟨some 94, .pu (.mov (.t 9)), some (93, true)⟩, ⟨some 95, .ld true 2 (.t 8), some (93, true)⟩, ⟨some 96, .ef (.call 69 [(.t 94), (.t 95), (.c (.i .u64 0))]), some (93, true)⟩, ⟨some 97, .pu (.mov (.t 11)), some (93, true)⟩, ⟨some 98, .pu (.mov (.t 7)), some (93, true)⟩, ⟨some 99, .pu (.min (.t 97) [(.t 98)]), some (93, true)⟩, ⟨some 100, .pu (.bin .eql (.t 96) (.t 99)), some (93, true)⟩] ++ o10_7
def o10_9 : List IOp := [⟨some 92, .ef (.call 68 []), none⟩, ⟨some 93, .pu (.mov (.t 92)), none⟩] ++ o10_8
def c10_2 : IC := (.seq (.draw o10_9 []) .ret)
def c10_15 : IC := (.region [⟨some 56, .pu (.mov (.t 12)), none⟩, ⟨some 57, .pu (.bin .add (.t 56) (.c (.i .i64 1))), none⟩, ⟨some 12, .pu (.mov (.t 57)), none⟩])
def c10_16 : IC := (.seq (.region [⟨some 80, .pu (.mov (.t 12)), none⟩, ⟨some 81, .pu (.mov (.t 11)), none⟩, ⟨some 82, .pu (.bin .neq (.t 80) (.t 81)), none⟩]) (.cond (.t 82) (.region [⟨some 83, .pu (.mov (.t 9)), none⟩, ⟨some 84, .ld true 2 (.t 8), none⟩, ⟨some 85, .pu (.mov (.t 12)), none⟩, ⟨some 86, .pu (.cvi .u64 (.t 85)), none⟩, ⟨some 87, .ef (.call 67 [(.t 84), (.t 86)]), none⟩, ⟨some 88, .pu (.mov (.t 12)), none⟩, ⟨some 89, .pu (.bin .add (.t 88) (.c (.i .i64 1))), none⟩, ⟨some 90, .pu (.cvi .u64 (.t 89)), none⟩, ⟨some 91, .ef (.call 66 [(.t 83), (.t 87), (.t 90)]), none⟩]) .skip))
def c10_17 : IC := (.cond (.t 79) (.seq (.region [⟨some 6, .pu (.mov (.c (.b false))), none⟩]) .ret) .skip)
def o10_18 : List IOp := [⟨some 79, .pu (.pick (.t 71) (.c (.b true)) (.t 78)), none⟩] ++ []
def o10_19 : List IOp := [⟨some 72, .pu (.mov (.t 9)), some (71, false)⟩, ⟨some 73, .ld true 2 (.t 8), some (71, false)⟩, ⟨some 74, .pu (.mov (.t 12)), some (71, false)⟩, ⟨some 75, .pu (.mov (.t 7)), some (71, false)⟩, ⟨some 76, .pu (.bin .add (.t 74) (.t 75)), some (71, false)⟩, ⟨some 77, .pu (.cvi .u64 (.t 76)), some (71, false)⟩, ⟨some 78, .ef (.call 64 [(.t 72), (.t 73), (.t 77)]), some (71, false)⟩] ++ o10_18
def o10_20 : List IOp := [⟨some 70, .pu (.pick (.t 64) (.c (.b true)) (.t 69)), none⟩, ⟨some 71, .pu (.mov (.t 70)), none⟩] ++ o10_19
def o10_21 : List IOp := [⟨some 65, .pu (.mov (.t 9)), some (64, false)⟩, ⟨some 66, .ld true 2 (.t 8), some (64, false)⟩, ⟨some 67, .pu (.mov (.t 12)), some (64, false)⟩, ⟨some 68, .pu (.cvi .u64 (.t 67)), some (64, false)⟩, ⟨some 69, .ef (.call 65 [(.t 65), (.t 66), (.t 68)]), some (64, false)⟩] ++ o10_20
def o10_22 : List IOp := [⟨some 58, .pu (.mov (.t 9)), none⟩, ⟨some 59, .ld true 2 (.t 8), none⟩, ⟨some 60, .pu (.mov (.t 12)), none⟩, ⟨some 61, .pu (.cvi .u64 (.t 60)), none⟩, ⟨some 62, .ef (.call 64 [(.t 58), (.t 59), (.t 61)]), none⟩, ⟨some 63, .pu (.un .not (.t 62)), none⟩, ⟨some 64, .pu (.mov (.t 63)), none⟩] ++ o10_21
def c10_14 : IC := (.seq (.seq (.region [⟨some 53, .pu (.mov (.t 12)), none⟩, ⟨some 54, .pu (.mov (.t 7)), none⟩, ⟨some 55, .pu (.bin .lss (.t 53) (.t 54)), none⟩]) (.cond (.t 55) .skip (.exit 0))) (.seq (.block 1 (.seq (.seq (.region o10_22) c10_17) c10_16)) c10_15))
def c10_1 : IC := (.seq (.region [⟨some 48, .pu (.mov (.t 2)), none⟩, ⟨some 49, .pu (.bin .and (.t 48) (.c (.i .i64 15))), none⟩, ⟨some 50, .pu (.mov (.t 7)), none⟩, ⟨some 51, .pu (.bin .add (.t 50) (.c (.i .i64 1))), none⟩, ⟨some 52, .pu (.bin .rem (.t 49) (.t 51)), none⟩, ⟨some 11, .pu (.mov (.t 52)), none⟩]) (.seq (.seq (.region [⟨some 12, .pu (.mov (.c (.i .i64 0))), none⟩]) (.block 0 (.loop c10_14))) c10_2))
def c10_25 : IC := (.cond (.t 47) (.seq (.region [⟨some 6, .pu (.mov (.c (.b false))), none⟩]) .ret) .skip)
def o10_26 : List IOp := [⟨some 47, .pu (.pick (.t 41) (.c (.b true)) (.t 46)), none⟩] ++ []
def o10_27 : List IOp := [⟨some 42, .pu (.mov (.t 9)), some (41, false)⟩, ⟨some 43, .pu (.mov (.t 7)), some (41, false)⟩, ⟨some 44, .pu (.bld [(.i .i64 0), (.i .i64 0)] [(0, 1, (.c (.i .i64 (-1)))), (1, 1, (.t 43))]), some (41, false)⟩, ⟨some 45, .ef (.call 63 [(.t 42), (.t 44)]), some (41, false)⟩, ⟨some 46, .pu (.bin .neq (.t 45) (.c (.i .i64 1))), some (41, false)⟩] ++ o10_26
def o10_28 : List IOp := [⟨some 40, .pu (.pick (.t 35) (.c (.b true)) (.t 39)), none⟩, ⟨some 41, .pu (.mov (.t 40)), none⟩] ++ o10_27
def o10_29 : List IOp := [⟨some 36, .pu (.mov (.t 10)), some (35, false)⟩, ⟨some 37, .ld true 2 (.t 8), some (35, false)⟩, ⟨some 38, .ef (.call 63 [(.t 36), (.t 37)]), some (35, false)⟩, ⟨some 39, .pu (.bin .neq (.t 38) (.c (.i .i64 1))), some (35, false)⟩] ++ o10_28
def o10_30 : List IOp := [⟨some 31, .pu (.mov (.t 9)), none⟩, ⟨some 32, .ld true 2 (.t 8), none⟩, ⟨some 33, .ef (.call 63 [(.t 31), (.t 32)]), none⟩, ⟨some 34, .pu (.bin .neq (.t 33) (.c (.i .i64 0))), none⟩, ⟨some 35, .pu (.mov (.t 34)), none⟩] ++ o10_29
def c10 : IC := (.seq (.region [⟨some 6, .pu (.mov (.c (.b false))), none⟩]) (.seq (.region [⟨some 13, .pu (.mov (.t 1)), none⟩, ⟨some 14, .pu (.bin .and (.t 13) (.c (.i .i64 3))), none⟩, ⟨some 15, .pu (.cvi .u64 (.t 14)), none⟩, ⟨some 16, .pu (.bin .shl (.c (.i .i64 2)) (.t 15)), none⟩, ⟨some 7, .pu (.mov (.t 16)), none⟩]) (.seq (.region [⟨some 17, .pu (.mov (.t 0)), none⟩, ⟨some 18, .pu (.bin .and (.t 17) (.c (.i .i64 63))), none⟩, ⟨some 19, .pu (.mov (.t 7)), none⟩, ⟨some 20, .pu (.bld [(.i .i64 0), (.i .i64 0)] [(0, 1, (.t 18)), (1, 1, (.t 19))]), none⟩, ⟨some 8, .al (.zero [(.i .i64 0), (.i .i64 0)]), none⟩, ⟨none, .ef (.store 2 (.t 8) (.t 20)), none⟩]) (.seq (.draw [⟨some 21, .pu (.fa 0 (.t 8)), none⟩, ⟨some 22, .ld false 1 (.t 21), none⟩, ⟨some 23, .pu (.mov (.t 7)), none⟩, ⟨some 24, .ef (.call 62 [(.t 23)]), none⟩, ⟨some 25, .pu (.bin .add (.t 22) (.t 24)), none⟩, ⟨some 26, .ef (.call 61 [(.t 25)]), none⟩, ⟨some 9, .pu (.mov (.t 26)), none⟩] [(1, 3)]) (.seq (.region [⟨some 27, .pu (.fa 0 (.t 8)), none⟩, ⟨some 28, .ld false 1 (.t 27), none⟩, ⟨some 29, .pu (.bin .add (.t 28) (.c (.i .i64 1))), none⟩, ⟨some 30, .ef (.call 61 [(.t 29)]), none⟩, ⟨some 10, .pu (.mov (.t 30)), none⟩]) (.seq (.seq (.region o10_30) c10_25) c10_1))))))
def ir10 : IFn := { ntmps := 123, results := rs10, body := c10 }
/-! cableway/arena.New -/
def rs61 : List RV := [(.t 2)]
def c61_1 : IC := (.seq (.region [⟨some 9, .pu (.mov (.t 0)), none⟩, ⟨some 10, .al (.mks 8 [(.i .u64 0)] (.t 9)), none⟩, ⟨some 11, .pu (.bld [.nsl, .nsl, (.i .i64 0)] [(0, 1, (.t 10))]), none⟩, ⟨some 12, .al (.box (.t 11)), none⟩, ⟨some 2, .pu (.mov (.t 12)), none⟩]) .ret)
def c61_2 : IC := (.cond (.t 8) (.seq (.region [⟨some 2, .pu (.mov (.c (.p none))), none⟩]) .ret) .skip)
def o61_3 : List IOp := [⟨some 8, .pu (.pick (.t 5) (.c (.b true)) (.t 7)), none⟩] ++ []
def o61_4 : List IOp := [⟨some 6, .pu (.mov (.t 0)), some (5, false)⟩, ⟨some 7, .pu (.bin .gtr (.t 6) (.c (.i .i64 16384))), some (5, false)⟩] ++ o61_3
def o61_5 : List IOp := [⟨some 3, .pu (.mov (.t 0)), none⟩, ⟨some 4, .pu (.bin .lss (.t 3) (.c (.i .i64 1))), none⟩, ⟨some 5, .pu (.mov (.t 4)), none⟩] ++ o61_4
def c61 : IC := (.seq (.region [⟨some 2, .pu (.mov (.c (.p none))), none⟩]) (.seq (.seq (.region o61_5) c61_2) c61_1))
def ir61 : IFn := { ntmps := 13, results := rs61, body := c61 }
/-! cableway/ring.Cells -/
def rs62 : List RV := [(.t 2)]
def c62 : IC := (.seq (.region [⟨some 2, .pu (.mov (.c (.i .i64 0))), none⟩]) (.seq (.region [⟨some 3, .pu (.mov (.t 0)), none⟩, ⟨some 4, .pu (.max (.t 3) [(.c (.i .i64 0))]), none⟩, ⟨some 5, .pu (.min (.t 4) [(.c (.i .i64 64))]), none⟩, ⟨some 6, .pu (.bin .mul (.t 5) (.c (.i .i64 4))), none⟩, ⟨some 7, .pu (.bin .add (.c (.i .i64 1)) (.t 6)), none⟩, ⟨some 2, .pu (.mov (.t 7)), none⟩]) .ret))
def ir62 : IFn := { ntmps := 8, results := rs62, body := c62 }
/-! cableway/ring.Init -/
def rs63 : List RV := [(.t 4)]
def c63_2 : IC := (.seq (.region [⟨some 4, .pu (.mov (.c (.i .i64 0))), none⟩]) .ret)
def c63_4 : IC := (.region [⟨some 51, .pu (.bin .add (.t 27) (.c (.i .i64 1))), none⟩, ⟨some 27, .pu (.mov (.t 51)), none⟩])
def c63_5 : IC := (.seq (.region [⟨some 39, .pu (.bin .lss (.t 38) (.c (.i .i64 3))), none⟩]) (.seq (.cond (.t 39) .skip (.exit 2)) (.seq (.block 3 (.seq (.region [⟨some 40, .pu (.mov (.t 38)), none⟩, ⟨some 6, .pu (.mov (.t 40)), none⟩]) (.region [⟨some 41, .pu (.mov (.t 0)), none⟩, ⟨some 42, .ld true 2 (.t 3), none⟩, ⟨some 43, .pu (.mov (.t 5)), none⟩, ⟨some 44, .pu (.cvi .u64 (.t 43)), none⟩, ⟨some 45, .ef (.call 113 [(.t 42), (.t 44)]), none⟩, ⟨some 46, .pu (.bin .add (.t 45) (.c (.i .i64 1))), none⟩, ⟨some 47, .pu (.mov (.t 6)), none⟩, ⟨some 48, .pu (.bin .add (.t 46) (.t 47)), none⟩, ⟨some 49, .ef (.call 66 [(.t 41), (.t 48), (.c (.i .u64 0))]), none⟩]))) (.region [⟨some 50, .pu (.bin .add (.t 38) (.c (.i .i64 1))), none⟩, ⟨some 38, .pu (.mov (.t 50)), none⟩]))))
def c63_3 : IC := (.seq (.region [⟨some 28, .pu (.bin .lss (.t 27) (.t 26)), none⟩]) (.seq (.cond (.t 28) .skip (.exit 0)) (.seq (.block 1 (.seq (.region [⟨some 29, .pu (.mov (.t 27)), none⟩, ⟨some 5, .pu (.mov (.t 29)), none⟩]) (.seq (.region [⟨some 30, .pu (.mov (.t 0)), none⟩, ⟨some 31, .ld true 2 (.t 3), none⟩, ⟨some 32, .pu (.mov (.t 5)), none⟩, ⟨some 33, .pu (.cvi .u64 (.t 32)), none⟩, ⟨some 34, .ef (.call 113 [(.t 31), (.t 33)]), none⟩, ⟨some 35, .pu (.mov (.t 5)), none⟩, ⟨some 36, .pu (.cvi .u64 (.t 35)), none⟩, ⟨some 37, .ef (.call 66 [(.t 30), (.t 34), (.t 36)]), none⟩]) (.seq (.region [⟨some 38, .pu (.mov (.c (.i .i64 0))), none⟩]) (.block 2 (.loop c63_5)))))) c63_4)))
def c63_1 : IC := (.seq (.region [⟨some 21, .pu (.mov (.t 0)), none⟩, ⟨some 22, .pu (.fa 0 (.t 3)), none⟩, ⟨some 23, .ld false 1 (.t 22), none⟩, ⟨some 24, .ef (.call 66 [(.t 21), (.t 23), (.c (.i .u64 0))]), none⟩]) (.seq (.seq (.region [⟨some 25, .pu (.fa 1 (.t 3)), none⟩, ⟨some 26, .ld false 1 (.t 25), none⟩, ⟨some 27, .pu (.mov (.c (.i .i64 0))), none⟩]) (.block 0 (.loop c63_3))) c63_2))
def c63_6 : IC := (.cond (.t 20) (.seq (.region [⟨some 4, .pu (.mov (.c (.i .i64 1))), none⟩]) .ret) .skip)
def o63_7 : List IOp := [⟨some 20, .pu (.pick (.t 10) (.c (.b true)) (.t 19)), none⟩] ++ []
def o63_8 : List IOp := [⟨some 11, .pu (.fa 0 (.t 3)), some (10, false)⟩, ⟨some 12, .ld false 1 (.t 11), some (10, false)⟩, ⟨some 13, .pu (.fa 1 (.t 3)), some (10, false)⟩, ⟨some 14, .ld false 1 (.t 13), some (10, false)⟩, ⟨some 15, .ef (.call 62 [(.t 14)]), some (10, false)⟩, ⟨some 16, .pu (.bin .add (.t 12) (.t 15)), some (10, false)⟩, ⟨some 17, .pu (.mov (.t 0)), some (10, false)⟩, ⟨some 18, .ef (.call 112 [(.t 17)]), some (10, false)⟩, ⟨some 19, .pu (.bin .gtr (.t 16) (.t 18)), some (10, false)⟩] ++ o63_7
def o63_9 : List IOp := [⟨some 7, .ld true 2 (.t 3), none⟩, ⟨some 8, .ef (.call 74 [(.t 7)]), none⟩, ⟨some 9, .pu (.un .not (.t 8)), none⟩, ⟨some 10, .pu (.mov (.t 9)), none⟩] ++ o63_8
def c63 : IC := (.seq (.region [⟨some 3, .al (.box (.t 1)), none⟩, ⟨some 4, .pu (.mov (.c (.i .i64 0))), none⟩]) (.seq (.seq (.draw o63_9 [(5, 8), (5, 11)]) c63_6) c63_1))
def ir63 : IFn := { ntmps := 52, results := rs63, body := c63 }
/-! cableway/ring.Open -/
def rs64 : List RV := [(.t 6)]
def o64_1 : List IOp := [⟨some 17, .pu (.pick (.t 9) (.t 16) (.c (.b false))), none⟩, ⟨some 6, .pu (.mov (.t 17)), none⟩] ++ []
def o64_2 : List IOp := [⟨some 10, .pu (.mov (.t 0)), some (9, true)⟩, ⟨some 11, .ld true 2 (.t 4), some (9, true)⟩, ⟨some 12, .pu (.mov (.t 2)), some (9, true)⟩, ⟨some 13, .ef (.call 113 [(.t 11), (.t 12)]), some (9, true)⟩, ⟨some 14, .ef (.call 114 [(.t 10), (.t 13)]), some (9, true)⟩, ⟨some 15, .pu (.mov (.t 2)), some (9, true)⟩, ⟨some 16, .pu (.bin .eql (.t 14) (.t 15)), some (9, true)⟩] ++ o64_1
def o64_3 : List IOp := [⟨some 7, .ld true 2 (.t 4), none⟩, ⟨some 8, .ef (.call 74 [(.t 7)]), none⟩, ⟨some 9, .pu (.mov (.t 8)), none⟩] ++ o64_2
def c64 : IC := (.seq (.region [⟨some 4, .al (.box (.t 1)), none⟩, ⟨some 6, .pu (.mov (.c (.b false))), none⟩]) (.seq (.region o64_3) .ret))
def ir64 : IFn := { ntmps := 18, results := rs64, body := c64 }
/-! cableway/ring.Ready -/
def rs65 : List RV := [(.t 6)]
def o65_1 : List IOp := [⟨some 18, .pu (.pick (.t 9) (.t 17) (.c (.b false))), none⟩, ⟨some 6, .pu (.mov (.t 18)), none⟩] ++ []
def o65_2 : List IOp := [⟨some 10, .pu (.mov (.t 0)), some (9, true)⟩, ⟨some 11, .ld true 2 (.t 4), some (9, true)⟩, ⟨some 12, .pu (.mov (.t 2)), some (9, true)⟩, ⟨some 13, .ef (.call 113 [(.t 11), (.t 12)]), some (9, true)⟩, ⟨some 14, .ef (.call 114 [(.t 10), (.t 13)]), some (9, true)⟩, ⟨some 15, .pu (.mov (.t 2)), some (9, true)⟩, ⟨some 16, .pu (.bin .add (.t 15) (.c (.i .u64 1))), some (9, true)⟩, ⟨some 17, .pu (.bin .eql (.t 14) (.t 16)), some (9, true)⟩] ++ o65_1
def o65_3 : List IOp := [⟨some 7, .ld true 2 (.t 4), none⟩, ⟨some 8, .ef (.call 74 [(.t 7)]), none⟩, ⟨some 9, .pu (.mov (.t 8)), none⟩] ++ o65_2
def c65 : IC := (.seq (.region [⟨some 4, .al (.box (.t 1)), none⟩, ⟨some 6, .pu (.mov (.c (.b false))), none⟩]) (.seq (.region o65_3) .ret))
def ir65 : IFn := { ntmps := 19, results := rs65, body := c65 }
/-! (*cableway/arena.Arena).Write -/
def rs66 : List RV := []
def c66 : IC := (.seq (.region [⟨some 6, .pu (.mov (.t 0)), none⟩, ⟨some 7, .pu (.mov (.t 1)), none⟩, ⟨some 8, .ef (.call 115 [(.t 6), (.t 7)]), none⟩]) (.cond (.t 8) (.region [⟨some 9, .pu (.mov (.t 0)), none⟩, ⟨some 10, .pu (.nilc (.t 9)), none⟩, ⟨some 11, .pu (.fa 0 (.t 10)), none⟩, ⟨some 12, .ld false 1 (.t 11), none⟩, ⟨some 13, .pu (.mov (.t 1)), none⟩, ⟨some 14, .pu (.mov (.t 2)), none⟩, ⟨some 15, .pu (.ia 1 (.t 12) (.t 13)), none⟩, ⟨none, .ef (.store 1 (.t 15) (.t 14)), none⟩]) .skip))
def ir66 : IFn := { ntmps := 16, results := rs66, body := c66 }
/-! cableway/ring.Stand -/
def rs67 : List RV := [(.t 4)]
def c67 : IC := (.seq (.region [⟨some 2, .al (.box (.t 0)), none⟩, ⟨some 4, .pu (.mov (.c (.i .i64 0))), none⟩]) (.seq (.seq (.region [⟨some 5, .ld true 2 (.t 2), none⟩, ⟨some 6, .ef (.call 74 [(.t 5)]), none⟩, ⟨some 7, .pu (.un .not (.t 6)), none⟩]) (.cond (.t 7) (.seq (.region [⟨some 4, .pu (.mov (.c (.i .i64 (-1)))), none⟩]) .ret) .skip)) (.seq (.region [⟨some 8, .ld true 2 (.t 2), none⟩, ⟨some 9, .pu (.mov (.t 1)), none⟩, ⟨some 10, .ef (.call 113 [(.t 8), (.t 9)]), none⟩, ⟨some 4, .pu (.mov (.t 10)), none⟩]) .ret)))
def ir67 : IFn := { ntmps := 11, results := rs67, body := c67 }
/-! cableway/cablewaylaw06.awake -/
def rs68 : List RV := [(.t 0)]
def o68_1 : List IOp := [⟨some 28, .pu (.pick (.t 23) (.t 27) (.c (.b false))), none⟩, ⟨some 0, .pu (.mov (.t 28)), none⟩] ++ []
def o68_2 : List IOp := [⟨some 24, .pu (.mov (.t 1)), some (23, true)⟩, ⟨some 25, .ld true 2 (.t 2), some (23, true)⟩, ⟨some 26, .ef (.call 65 [(.t 24), (.t 25), (.c (.i .u64 0))]), some (23, true)⟩, ⟨some 27, .pu (.un .not (.t 26)), some (23, true)⟩] ++ o68_1
def o68_3 : List IOp := [⟨some 22, .pu (.pick (.t 18) (.t 21) (.c (.b false))), none⟩, ⟨some 23, .pu (.mov (.t 22)), none⟩] ++ o68_2
def o68_4 : List IOp := [⟨some 19, .pu (.mov (.t 1)), some (18, true)⟩, ⟨some 20, .ld true 2 (.t 2), some (18, true)⟩, ⟨some 21, .ef (.call 64 [(.t 19), (.t 20), (.c (.i .u64 1))]), some (18, true)⟩] ++ o68_3
def o68_5 : List IOp := [⟨some 17, .pu (.pick (.t 13) (.t 16) (.c (.b false))), none⟩, ⟨some 18, .pu (.mov (.t 17)), none⟩] ++ o68_4
def o68_6 : List IOp := [⟨some 14, .pu (.mov (.t 1)), some (13, true)⟩, ⟨some 15, .ld true 2 (.t 2), some (13, true)⟩, ⟨some 16, .ef (.call 64 [(.t 14), (.t 15), (.c (.i .u64 0))]), some (13, true)⟩] ++ o68_5
def o68_7 : List IOp := [⟨some 12, .pu (.pick (.t 7) (.t 11) (.c (.b false))), none⟩, ⟨some 13, .pu (.mov (.t 12)), none⟩] ++ o68_6
def o68_8 : List IOp := [⟨some 8, .pu (.mov (.t 1)), some (7, true)⟩, ⟨some 9, .ld true 2 (.t 2), some (7, true)⟩, ⟨some 10, .ef (.call 63 [(.t 8), (.t 9)]), some (7, true)⟩, ⟨some 11, .pu (.bin .eql (.t 10) (.c (.i .i64 0))), some (7, true)⟩] ++ o68_7
def o68_9 : List IOp := [⟨some 5, .ef (.call 62 [(.c (.i .i64 2))]), none⟩, ⟨some 6, .pu (.bin .eql (.t 5) (.c (.i .i64 9))), none⟩, ⟨some 7, .pu (.mov (.t 6)), none⟩] ++ o68_8
def c68 : IC := (.seq (.region [⟨some 0, .pu (.mov (.c (.b false))), none⟩]) (.seq (.region [⟨some 3, .ef (.call 61 [(.c (.i .i64 9))]), none⟩, ⟨some 1, .pu (.mov (.t 3)), none⟩]) (.seq (.region [⟨some 4, .pu (.bld [(.i .i64 0), (.i .i64 0)] [(0, 1, (.c (.i .i64 0))), (1, 1, (.c (.i .i64 2)))]), none⟩, ⟨some 2, .al (.zero [(.i .i64 0), (.i .i64 0)]), none⟩, ⟨none, .ef (.store 2 (.t 2) (.t 4)), none⟩]) (.seq (.region o68_9) .ret))))
def ir68 : IFn := { ntmps := 29, results := rs68, body := c68 }
/-! cableway/ring.Held -/
def rs69 : List RV := [(.t 6)]
def c69_1 : IC := (.seq (.region [⟨some 23, .pu (.mov (.t 7)), none⟩, ⟨some 6, .pu (.mov (.t 23)), none⟩]) .ret)
def c69_3 : IC := (.block 1 (.region [⟨some 21, .pu (.mov (.t 7)), none⟩, ⟨some 22, .pu (.bin .add (.t 21) (.c (.i .i64 1))), none⟩, ⟨some 7, .pu (.mov (.t 22)), none⟩]))
def c69_4 : IC := (.cond (.t 20) .skip (.exit 0))
def o69_5 : List IOp := [⟨some 20, .pu (.pick (.t 12) (.t 19) (.c (.b false))), none⟩] ++ []
def o69_6 : List IOp := [⟨some 13, .pu (.mov (.t 0)), some (12, true)⟩, ⟨some 14, .ld true 2 (.t 4), some (12, true)⟩, ⟨some 15, .pu (.mov (.t 2)), some (12, true)⟩, ⟨some 16, .pu (.mov (.t 7)), some (12, true)⟩, ⟨some 17, .pu (.cvi .u64 (.t 16)), some (12, true)⟩, ⟨some 18, .pu (.bin .add (.t 15) (.t 17)), some (12, true)⟩, ⟨some 19, .ef (.call 65 [(.t 13), (.t 14), (.t 18)]), some (12, true)⟩] ++ o69_5
def o69_7 : List IOp := [⟨some 8, .pu (.mov (.t 7)), none⟩, ⟨some 9, .pu (.fa 1 (.t 4)), none⟩, ⟨some 10, .ld false 1 (.t 9), none⟩, ⟨some 11, .pu (.bin .lss (.t 8) (.t 10)), none⟩, ⟨some 12, .pu (.mov (.t 11)), none⟩] ++ o69_6
def c69_2 : IC := (.seq (.seq (.region o69_7) c69_4) c69_3)
def c69 : IC := (.seq (.region [⟨some 4, .al (.box (.t 1)), none⟩, ⟨some 6, .pu (.mov (.c (.i .i64 0))), none⟩]) (.seq (.region [⟨some 7, .pu (.mov (.c (.i .i64 0))), none⟩]) (.seq (.block 0 (.loop c69_2)) c69_1)))
def ir69 : IFn := { ntmps := 24, results := rs69, body := c69 }
/-! cableway/ring.May -/
def rs74 : List RV := [(.t 2)]
def o74_1 : List IOp := [⟨some 31, .pu (.pick (.t 24) (.t 30) (.c (.b false))), none⟩, ⟨some 2, .pu (.mov (.t 31)), none⟩] ++ []
def o74_2 : List IOp := [⟨some 25, .pu (.fa 0 (.t 1)), some (24, true)⟩, ⟨some 26, .ld false 1 (.t 25), some (24, true)⟩, ⟨some 27, .pu (.mov (.t 3)), some (24, true)⟩, ⟨some 28, .ef (.call 62 [(.t 27)]), some (24, true)⟩, ⟨some 29, .pu (.bin .sub (.c (.i .i64 16384)) (.t 28)), some (24, true)⟩, ⟨some 30, .pu (.bin .leq (.t 26) (.t 29)), some (24, true)⟩] ++ o74_1
def o74_3 : List IOp := [⟨some 23, .pu (.pick (.t 19) (.t 22) (.c (.b false))), none⟩, ⟨some 24, .pu (.mov (.t 23)), none⟩] ++ o74_2
def o74_4 : List IOp := [⟨some 20, .pu (.fa 0 (.t 1)), some (19, true)⟩, ⟨some 21, .ld false 1 (.t 20), some (19, true)⟩, ⟨some 22, .pu (.bin .geq (.t 21) (.c (.i .i64 0))), some (19, true)⟩] ++ o74_3
def o74_5 : List IOp := [⟨some 18, .pu (.pick (.t 12) (.t 17) (.c (.b false))), none⟩, ⟨some 19, .pu (.mov (.t 18)), none⟩] ++ o74_4
def o74_6 : List IOp := [⟨some 13, .pu (.mov (.t 3)), some (12, true)⟩, ⟨some 14, .pu (.mov (.t 3)), some (12, true)⟩, ⟨some 15, .pu (.bin .sub (.t 14) (.c (.i .i64 1))), some (12, true)⟩, ⟨some 16, .pu (.bin .and (.t 13) (.t 15)), some (12, true)⟩, ⟨some 17, .pu (.bin .eql (.t 16) (.c (.i .i64 0))), some (12, true)⟩] ++ o74_5
def o74_7 : List IOp := [⟨some 11, .pu (.pick (.t 8) (.t 10) (.c (.b false))), none⟩, ⟨some 12, .pu (.mov (.t 11)), none⟩] ++ o74_6
def o74_8 : List IOp := [⟨some 9, .pu (.mov (.t 3)), some (8, true)⟩, ⟨some 10, .pu (.bin .leq (.t 9) (.c (.i .i64 64))), some (8, true)⟩] ++ o74_7
def o74_9 : List IOp := [⟨some 6, .pu (.mov (.t 3)), none⟩, ⟨some 7, .pu (.bin .geq (.t 6) (.c (.i .i64 2))), none⟩, ⟨some 8, .pu (.mov (.t 7)), none⟩] ++ o74_8
def c74 : IC := (.seq (.region [⟨some 1, .al (.box (.t 0)), none⟩, ⟨some 2, .pu (.mov (.c (.b false))), none⟩]) (.seq (.region [⟨some 4, .pu (.fa 1 (.t 1)), none⟩, ⟨some 5, .ld false 1 (.t 4), none⟩, ⟨some 3, .pu (.mov (.t 5)), none⟩]) (.seq (.draw o74_9 [(20, 22)]) .ret)))
def ir74 : IFn := { ntmps := 32, results := rs74, body := c74 }
/-! (*cableway/arena.Arena).Len -/
def rs112 : List RV := [(.t 2)]
def c112 : IC := (.seq (.region [⟨some 2, .pu (.mov (.c (.i .i64 0))), none⟩]) (.seq (.seq (.region [⟨some 3, .pu (.mov (.t 0)), none⟩, ⟨some 4, .pu (.eqz false .p (.t 3) (.c (.p none))), none⟩]) (.cond (.t 4) (.seq (.region [⟨some 2, .pu (.mov (.c (.i .i64 0))), none⟩]) .ret) .skip)) (.seq (.region [⟨some 5, .pu (.mov (.t 0)), none⟩, ⟨some 6, .pu (.nilc (.t 5)), none⟩, ⟨some 7, .pu (.fa 0 (.t 6)), none⟩, ⟨some 8, .ld false 1 (.t 7), none⟩, ⟨some 9, .pu (.lens (.t 8)), none⟩, ⟨some 2, .pu (.mov (.t 9)), none⟩]) .ret)))
def ir112 : IFn := { ntmps := 10, results := rs112, body := c112 }
/-! cableway/ring.place -/
def rs113 : List RV := [(.t 4)]
def c113 : IC := (.seq (.region [⟨some 2, .al (.box (.t 0)), none⟩, ⟨some 4, .pu (.mov (.c (.i .i64 0))), none⟩]) (.seq (.draw [⟨some 5, .pu (.fa 0 (.t 2)), none⟩, ⟨some 6, .ld false 1 (.t 5), none⟩, ⟨some 7, .pu (.bin .add (.t 6) (.c (.i .i64 1))), none⟩, ⟨some 8, .pu (.mov (.t 1)), none⟩, ⟨some 9, .pu (.fa 1 (.t 2)), none⟩, ⟨some 10, .ld false 1 (.t 9), none⟩, ⟨some 11, .pu (.cvi .u64 (.t 10)), none⟩, ⟨some 12, .pu (.bin .rem (.t 8) (.t 11)), none⟩, ⟨some 13, .pu (.cvi .i64 (.t 12)), none⟩, ⟨some 14, .pu (.bin .mul (.t 13) (.c (.i .i64 4))), none⟩, ⟨some 15, .pu (.bin .add (.t 7) (.t 14)), none⟩, ⟨some 4, .pu (.mov (.t 15)), none⟩] []) .ret))
def ir113 : IFn := { ntmps := 16, results := rs113, body := c113 }
/-! (*cableway/arena.Arena).Look -/
def rs114 : List RV := [(.t 4)]
def c114_1 : IC := (.seq (.region [⟨some 13, .pu (.mov (.t 0)), none⟩, ⟨some 14, .pu (.nilc (.t 13)), none⟩, ⟨some 15, .pu (.fa 0 (.t 14)), none⟩, ⟨some 16, .ld false 1 (.t 15), none⟩, ⟨some 17, .pu (.mov (.t 1)), none⟩, ⟨some 18, .pu (.ia 1 (.t 16) (.t 17)), none⟩, ⟨some 19, .ld false 1 (.t 18), none⟩, ⟨some 4, .pu (.mov (.t 19)), none⟩]) .ret)
def c114_2 : IC := (.cond (.t 12) (.seq (.region [⟨some 4, .pu (.mov (.c (.i .u64 0))), none⟩]) .ret) .skip)
def o114_3 : List IOp := [⟨some 12, .pu (.pick (.t 7) (.c (.b true)) (.t 11)), none⟩] ++ []
def o114_4 : List IOp := [⟨some 8, .pu (.mov (.t 1)), some (7, false)⟩, ⟨some 9, .pu (.mov (.t 0)), some (7, false)⟩, ⟨some 10, .ef (.call 112 [(.t 9)]), some (7, false)⟩, ⟨some 11, .pu (.bin .geq (.t 8) (.t 10)), some (7, false)⟩] ++ o114_3
def o114_5 : List IOp := [⟨some 5, .pu (.mov (.t 1)), none⟩, ⟨some 6, .pu (.bin .lss (.t 5) (.c (.i .i64 0))), none⟩, ⟨some 7, .pu (.mov (.t 6)), none⟩] ++ o114_4
def c114 : IC := (.seq (.region [⟨some 4, .pu (.mov (.c (.i .u64 0))), none⟩]) (.seq (.seq (.region o114_5) c114_2) c114_1))
def ir114 : IFn := { ntmps := 20, results := rs114, body := c114 }
/-! (*cableway/arena.Arena).touch -/
def rs115 : List RV := [(.t 4)]
def c115_2 : IC := (.seq (.region [⟨some 4, .pu (.mov (.c (.b true))), none⟩]) .ret)
def c115_1 : IC := (.seq (.seq (.region [⟨some 25, .pu (.mov (.t 0)), none⟩, ⟨some 26, .pu (.nilc (.t 25)), none⟩, ⟨some 27, .pu (.fa 1 (.t 26)), none⟩, ⟨some 28, .ld false 1 (.t 27), none⟩, ⟨some 29, .pu (.mov (.t 1)), none⟩, ⟨some 30, .ef (.call 129 [(.t 28), (.t 29)]), none⟩, ⟨some 31, .pu (.un .not (.t 30)), none⟩]) (.cond (.t 31) (.region [⟨some 32, .pu (.mov (.t 0)), none⟩, ⟨some 33, .pu (.mov (.t 0)), none⟩, ⟨some 34, .pu (.nilc (.t 33)), none⟩, ⟨some 35, .pu (.fa 1 (.t 34)), none⟩, ⟨some 36, .ld false 1 (.t 35), none⟩, ⟨some 37, .pu (.mov (.t 1)), none⟩, ⟨some 38, .al (.sl 1 [(.i .i64 0)] [(0, 1, (.t 37))]), none⟩, ⟨some 39, .ef (.app 1 8 (.t 36) (.t 38)), none⟩, ⟨some 40, .pu (.nilc (.t 32)), none⟩, ⟨some 41, .pu (.fa 1 (.t 40)), none⟩, ⟨none, .ef (.store 1 (.t 41) (.t 39)), none⟩]) .skip)) c115_2)
def c115_3 : IC := (.cond (.t 17) (.seq (.region [⟨some 18, .pu (.mov (.t 0)), none⟩, ⟨some 19, .pu (.nilc (.t 18)), none⟩, ⟨some 20, .pu (.fa 2 (.t 19)), none⟩, ⟨some 21, .ld false 1 (.t 20), none⟩, ⟨some 22, .pu (.bin .add (.t 21) (.c (.i .i64 1))), none⟩, ⟨some 23, .pu (.nilc (.t 18)), none⟩, ⟨some 24, .pu (.fa 2 (.t 23)), none⟩, ⟨none, .ef (.store 1 (.t 24) (.t 22)), none⟩]) (.seq (.region [⟨some 4, .pu (.mov (.c (.b false))), none⟩]) .ret)) .skip)
def o115_4 : List IOp := [⟨some 17, .pu (.pick (.t 9) (.c (.b true)) (.t 16)), none⟩] ++ []
def o115_5 : List IOp := [⟨some 10, .pu (.mov (.t 1)), some (9, false)⟩, ⟨some 11, .pu (.mov (.t 0)), some (9, false)⟩, ⟨some 12, .pu (.nilc (.t 11)), some (9, false)⟩, ⟨some 13, .pu (.fa 0 (.t 12)), some (9, false)⟩, ⟨some 14, .ld false 1 (.t 13), some (9, false)⟩, ⟨some 15, .pu (.lens (.t 14)), some (9, false)⟩, ⟨some 16, .pu (.bin .geq (.t 10) (.t 15)), some (9, false)⟩] ++ o115_4
def o115_6 : List IOp := [⟨some 7, .pu (.mov (.t 1)), none⟩, ⟨some 8, .pu (.bin .lss (.t 7) (.c (.i .i64 0))), none⟩, ⟨some 9, .pu (.mov (.t 8)), none⟩] ++ o115_5
def c115 : IC := (.seq (.region [⟨some 4, .pu (.mov (.c (.b false))), none⟩]) (.seq (.seq (.region [⟨some 5, .pu (.mov (.t 0)), none⟩, ⟨some 6, .pu (.eqz false .p (.t 5) (.c (.p none))), none⟩]) (.cond (.t 6) (.seq (.region [⟨some 4, .pu (.mov (.c (.b false))), none⟩]) .ret) .skip)) (.seq (.seq (.region o115_6) c115_3) c115_1)))
def ir115 : IFn := { ntmps := 42, results := rs115, body := c115 }
/-! slices.Contains[[]int,int] -/
def rs129 : List RV := [(.t 4)]
def c129 : IC := (.seq (.region [⟨some 4, .pu (.mov (.c (.b false))), none⟩]) (.seq (.region [⟨some 5, .pu (.mov (.t 0)), none⟩, ⟨some 6, .pu (.mov (.t 1)), none⟩, ⟨some 7, .ef (.call 139 [(.t 5), (.t 6)]), none⟩, ⟨some 8, .pu (.bin .geq (.t 7) (.c (.i .i64 0))), none⟩, ⟨some 4, .pu (.mov (.t 8)), none⟩]) .ret))
def ir129 : IFn := { ntmps := 9, results := rs129, body := c129 }
/-! slices.Index[[]int,int] -/
def rs139 : List RV := [(.t 4)]
def c139_1 : IC := (.seq (.region [⟨some 4, .pu (.mov (.c (.i .i64 (-1)))), none⟩]) .ret)
def c139_2 : IC := (.seq (.region [⟨some 9, .pu (.bin .lss (.t 8) (.t 7)), none⟩]) (.seq (.cond (.t 9) .skip (.exit 0)) (.seq (.block 1 (.seq (.region [⟨some 10, .pu (.mov (.t 8)), none⟩, ⟨some 5, .pu (.mov (.t 10)), none⟩]) (.seq (.region [⟨some 11, .pu (.mov (.t 1)), none⟩, ⟨some 12, .pu (.mov (.t 0)), none⟩, ⟨some 13, .pu (.mov (.t 5)), none⟩, ⟨some 14, .pu (.ia 1 (.t 12) (.t 13)), none⟩, ⟨some 15, .ld false 1 (.t 14), none⟩, ⟨some 16, .pu (.bin .eql (.t 11) (.t 15)), none⟩]) (.cond (.t 16) (.seq (.region [⟨some 17, .pu (.mov (.t 5)), none⟩, ⟨some 4, .pu (.mov (.t 17)), none⟩]) .ret) .skip)))) (.region [⟨some 18, .pu (.bin .add (.t 8) (.c (.i .i64 1))), none⟩, ⟨some 8, .pu (.mov (.t 18)), none⟩]))))
def c139 : IC := (.seq (.region [⟨some 4, .pu (.mov (.c (.i .i64 0))), none⟩]) (.seq (.seq (.region [⟨some 6, .pu (.mov (.t 0)), none⟩, ⟨some 7, .pu (.lens (.t 6)), none⟩, ⟨some 8, .pu (.mov (.c (.i .i64 0))), none⟩]) (.block 0 (.loop c139_2))) c139_1))
def ir139 : IFn := { ntmps := 19, results := rs139, body := c139 }
def tree : Tr IFn := (.n (.n (.n (.n (.n (.n (.n .l (some ir63) .l) none .l) none .l) none .l) none (.n (.n (.n (.n .l (some ir67) .l) none .l) none (.n .l none (.n .l (some ir115) .l))) none (.n (.n (.n (.n .l (some ir139) .l) none .l) none .l) none .l))) none (.n (.n (.n (.n (.n (.n .l (some ir129) .l) (some ir65) .l) none .l) none (.n .l none (.n .l (some ir113) .l))) none .l) none (.n (.n (.n (.n .l (some ir69) .l) none .l) none .l) none (.n .l none (.n .l (some ir61) .l))))) none (.n (.n (.n (.n (.n (.n .l (some ir64) .l) none .l) none (.n .l none (.n .l (some ir112) .l))) none .l) none (.n (.n (.n (.n .l (some ir68) .l) none .l) none .l) none .l)) none (.n (.n (.n (.n (.n .l (some ir66) .l) none .l) none (.n .l none (.n .l (some ir114) .l))) (some ir10) (.n (.n (.n .l (some ir74) .l) none .l) none .l)) none (.n .l none (.n .l none (.n .l (some ir62) .l))))))
def IP (f : Nat) : Option IFn := tree.get f
theorem ok10 : ∃ fn, Try.prog.funcs[10]? = some fn ∧ trFn Try.prog 0 fn = some ir10 := ⟨_, Try.func10, by kernel_rfl⟩
theorem ok61 : ∃ fn, Try.prog.funcs[61]? = some fn ∧ trFn Try.prog 0 fn = some ir61 := ⟨_, Try.func61, by kernel_rfl⟩
theorem ok62 : ∃ fn, Try.prog.funcs[62]? = some fn ∧ trFn Try.prog 0 fn = some ir62 := ⟨_, Try.func62, by kernel_rfl⟩
theorem ok63 : ∃ fn, Try.prog.funcs[63]? = some fn ∧ trFn Try.prog 0 fn = some ir63 := ⟨_, Try.func63, by kernel_rfl⟩
theorem ok64 : ∃ fn, Try.prog.funcs[64]? = some fn ∧ trFn Try.prog 0 fn = some ir64 := ⟨_, Try.func64, by kernel_rfl⟩
theorem ok65 : ∃ fn, Try.prog.funcs[65]? = some fn ∧ trFn Try.prog 0 fn = some ir65 := ⟨_, Try.func65, by kernel_rfl⟩
theorem ok66 : ∃ fn, Try.prog.funcs[66]? = some fn ∧ trFn Try.prog 0 fn = some ir66 := ⟨_, Try.func66, by kernel_rfl⟩
theorem ok67 : ∃ fn, Try.prog.funcs[67]? = some fn ∧ trFn Try.prog 0 fn = some ir67 := ⟨_, Try.func67, by kernel_rfl⟩
theorem ok68 : ∃ fn, Try.prog.funcs[68]? = some fn ∧ trFn Try.prog 0 fn = some ir68 := ⟨_, Try.func68, by kernel_rfl⟩
theorem ok69 : ∃ fn, Try.prog.funcs[69]? = some fn ∧ trFn Try.prog 0 fn = some ir69 := ⟨_, Try.func69, by kernel_rfl⟩
theorem ok74 : ∃ fn, Try.prog.funcs[74]? = some fn ∧ trFn Try.prog 0 fn = some ir74 := ⟨_, Try.func74, by kernel_rfl⟩
theorem ok112 : ∃ fn, Try.prog.funcs[112]? = some fn ∧ trFn Try.prog 0 fn = some ir112 := ⟨_, Try.func112, by kernel_rfl⟩
theorem ok113 : ∃ fn, Try.prog.funcs[113]? = some fn ∧ trFn Try.prog 0 fn = some ir113 := ⟨_, Try.func113, by kernel_rfl⟩
theorem ok114 : ∃ fn, Try.prog.funcs[114]? = some fn ∧ trFn Try.prog 0 fn = some ir114 := ⟨_, Try.func114, by kernel_rfl⟩
theorem ok115 : ∃ fn, Try.prog.funcs[115]? = some fn ∧ trFn Try.prog 0 fn = some ir115 := ⟨_, Try.func115, by kernel_rfl⟩
theorem ok129 : ∃ fn, Try.prog.funcs[129]? = some fn ∧ trFn Try.prog 0 fn = some ir129 := ⟨_, Try.func129, by kernel_rfl⟩
theorem ok139 : ∃ fn, Try.prog.funcs[139]? = some fn ∧ trFn Try.prog 0 fn = some ir139 := ⟨_, Try.func139, by kernel_rfl⟩
theorem all : tree.All (fun f ir => ∃ fn, Try.prog.funcs[f]? = some fn ∧ trFn Try.prog 0 fn = some ir) 1 0 :=
  ⟨(fun _ h => by cases h), ⟨(fun _ h => by cases h), ⟨(fun _ h => by cases h), ⟨(fun _ h => by cases h), ⟨(fun _ h => by cases h), ⟨(fun _ h => by cases h), ⟨(fun _ h => by cases h; exact ok63), trivial, trivial⟩, trivial⟩, trivial⟩, trivial⟩, ⟨(fun _ h => by cases h), ⟨(fun _ h => by cases h), ⟨(fun _ h => by cases h), ⟨(fun _ h => by cases h; exact ok67), trivial, trivial⟩, trivial⟩, ⟨(fun _ h => by cases h), trivial, ⟨(fun _ h => by cases h; exact ok115), trivial, trivial⟩⟩⟩, ⟨(fun _ h => by cases h), ⟨(fun _ h => by cases h), ⟨(fun _ h => by cases h), ⟨(fun _ h => by cases h; exact ok139), trivial, trivial⟩, trivial⟩, trivial⟩, trivial⟩⟩⟩, ⟨(fun _ h => by cases h), ⟨(fun _ h => by cases h), ⟨(fun _ h => by cases h), ⟨(fun _ h => by cases h), ⟨(fun _ h => by cases h; exact ok65), ⟨(fun _ h => by cases h; exact ok129), trivial, trivial⟩, trivial⟩, trivial⟩, ⟨(fun _ h => by cases h), trivial, ⟨(fun _ h => by cases h; exact ok113), trivial, trivial⟩⟩⟩, trivial⟩, ⟨(fun _ h => by cases h), ⟨(fun _ h => by cases h), ⟨(fun _ h => by cases h), ⟨(fun _ h => by cases h; exact ok69), trivial, trivial⟩, trivial⟩, trivial⟩, ⟨(fun _ h => by cases h), trivial, ⟨(fun _ h => by cases h; exact ok61), trivial, trivial⟩⟩⟩⟩⟩, ⟨(fun _ h => by cases h), ⟨(fun _ h => by cases h), ⟨(fun _ h => by cases h), ⟨(fun _ h => by cases h), ⟨(fun _ h => by cases h), ⟨(fun _ h => by cases h; exact ok64), trivial, trivial⟩, trivial⟩, ⟨(fun _ h => by cases h), trivial, ⟨(fun _ h => by cases h; exact ok112), trivial, trivial⟩⟩⟩, trivial⟩, ⟨(fun _ h => by cases h), ⟨(fun _ h => by cases h), ⟨(fun _ h => by cases h), ⟨(fun _ h => by cases h; exact ok68), trivial, trivial⟩, trivial⟩, trivial⟩, trivial⟩⟩, ⟨(fun _ h => by cases h), ⟨(fun _ h => by cases h; exact ok10), ⟨(fun _ h => by cases h), ⟨(fun _ h => by cases h), ⟨(fun _ h => by cases h; exact ok66), trivial, trivial⟩, trivial⟩, ⟨(fun _ h => by cases h), trivial, ⟨(fun _ h => by cases h; exact ok114), trivial, trivial⟩⟩⟩, ⟨(fun _ h => by cases h), ⟨(fun _ h => by cases h), ⟨(fun _ h => by cases h; exact ok74), trivial, trivial⟩, trivial⟩, trivial⟩⟩, ⟨(fun _ h => by cases h), trivial, ⟨(fun _ h => by cases h), trivial, ⟨(fun _ h => by cases h; exact ok62), trivial, trivial⟩⟩⟩⟩⟩⟩
theorem bare : AllBare IP := allBare tree (by kernel_rfl)
theorem prog : ProgOK Try.prog 0 IP := progOK_of_tree (by kernel_rfl) all
theorem ip10 : IP 10 = some ir10 := rfl
def Q10 [q : Hid (V → H → Prop)] : X → E → H → Prop := Qr rs10 q.un
def Q10_1 [q : Hid (V → H → Prop)] : X → E → H → Prop := (@Q10 q)
def Q10_2 [q : Hid (V → H → Prop)] : X → E → H → Prop := (@Q10_1 q)
def S10_10 [q : Hid (V → H → Prop)] : E → H → Prop := ((Qx (den IP .ret (@Q10_2 q)) (@Q10_2 q)) X.normal)
def K10_10 (x102 x121 : V) (h : H) [q : Hid (V → H → Prop)] : Prop := @Bnd V (vPick x102 x121 (.b false)) ⟨fun v1 => @Hid.un (V → H → Prop) q v1 h⟩
def J10_10 [q : Hid (V → H → Prop)] : E → H → Prop := fun e h => @K10_10 (e 102) (e 121) h q
theorem p10_10 [q : Hid (V → H → Prop)] : denOps IP o10_3 (@S10_10 q) = @J10_10 q := by
  refine Eq.trans (app_eq rfl rfl) ?_
  kernel_rfl
def S10_11 [q : Hid (V → H → Prop)] : E → H → Prop := ((Qx (den IP .ret (@Q10_2 q)) (@Q10_2 q)) X.normal)
def K10_11 (x102 x110 x113 x119 : V) (h : H) [q : Hid (V → H → Prop)] : Prop := @Grd x102 true ⟨@Bnd V (vPick x113 x119 (.b false)) ⟨fun v1 => @Bnd V (vEqz false .b x110 v1) ⟨fun v2 => @K10_10 x102 v2 h q⟩⟩⟩ ⟨@K10_10 x102 undefV h q⟩
def J10_11 [q : Hid (V → H → Prop)] : E → H → Prop := fun e h => @K10_11 (e 102) (e 110) (e 113) (e 119) h q
theorem p10_11 [q : Hid (V → H → Prop)] : denOps IP o10_4 (@S10_11 q) = @J10_11 q := by
  refine Eq.trans (grp_eq2 102 true rfl (@p10_10 q) rfl) ?_
  kernel_rfl
def S10_12 [q : Hid (V → H → Prop)] : E → H → Prop := ((Qx (den IP .ret (@Q10_2 q)) (@Q10_2 q)) X.normal)
def K10_12 (x7 x11 x102 x110 x113 : V) (h : H) [q : Hid (V → H → Prop)] : Prop := @Grd x113 true ⟨@Bnd V (bin .add x11 (.i .i64 1)) ⟨fun v1 => @Bnd V (bin .rem v1 x7) ⟨fun v2 => @Bnd V (bin .neq v2 x11) ⟨fun v3 => @K10_11 x102 x110 x113 v3 h q⟩⟩⟩⟩ ⟨@K10_11 x102 x110 x113 undefV h q⟩
def J10_12 [q : Hid (V → H → Prop)] : E → H → Prop := fun e h => @K10_12 (e 7) (e 11) (e 102) (e 110) (e 113) h q
theorem p10_12 [q : Hid (V → H → Prop)] : denOps IP o10_5 (@S10_12 q) = @J10_12 q := by
  refine Eq.trans (grp_eq2 113 true rfl (@p10_11 q) rfl) ?_
  kernel_rfl
def S10_13 [q : Hid (V → H → Prop)] : E → H → Prop := ((Qx (den IP .ret (@Q10_2 q)) (@Q10_2 q)) X.normal)
def K10_13 (x7 x8 x9 x11 x93 x100 : V) (h : H) [q : Hid (V → H → Prop)] : Prop := @Bnd V (vPick x93 x100 (.b false)) ⟨fun v1 => @Grd v1 true ⟨@Bnd V (vLdA h 2 x8) ⟨fun v2 => @Bnd V (bin .add x11 (.i .i64 1)) ⟨fun v3 => @Bnd V (bin .rem v3 x7) ⟨fun v4 => @Bnd V (vCvi .u64 v4) ⟨fun v5 => @wF IP 65 [x9, v2, v5] h ⟨fun v6 h7 => @Bnd V (bin .gtr x7 (.i .i64 1)) ⟨fun v8 => @K10_12 x7 x11 v1 v6 v8 h7 q⟩⟩⟩⟩⟩⟩⟩ ⟨@K10_12 x7 x11 v1 undefV undefV h q⟩⟩
def J10_13 [q : Hid (V → H → Prop)] : E → H → Prop := fun e h => @K10_13 (e 7) (e 8) (e 9) (e 11) (e 93) (e 100) h q
theorem p10_13 [q : Hid (V → H → Prop)] : denOps IP o10_7 (@S10_13 q) = @J10_13 q := by
  refine Eq.trans (app_eq (grp_eq2 102 true rfl (@p10_12 q) rfl) rfl) ?_
  kernel_rfl
def K10_2 (x7 x8 x9 x11 : V) (h : H) [q : Hid (V → H → Prop)] : Prop := @wF IP 68 [] h ⟨fun v1 h2 => @Grd v1 true ⟨@Bnd V (vLdA h2 2 x8) ⟨fun v3 => @wF IP 69 [x9, v3, (.i .u64 0)] h2 ⟨fun v4 h5 => @Bnd V (foldO min2 x11 [x7]) ⟨fun v6 => @Bnd V (bin .eql v4 v6) ⟨fun v7 => @K10_13 x7 x8 x9 x11 v1 v7 h5 q⟩⟩⟩⟩⟩ ⟨@K10_13 x7 x8 x9 x11 v1 undefV h2 q⟩⟩
def J10_2 [q : Hid (V → H → Prop)] : E → H → Prop := fun e h => @K10_2 (e 7) (e 8) (e 9) (e 11) h q
theorem p10_2 [q : Hid (V → H → Prop)] : den IP c10_2 (@Q10_2 q) = @J10_2 q := by
  refine Eq.trans (seq_eq rfl (draw0_eq (app_eq (grp_eq2 93 true rfl (@p10_13 q) rfl) rfl))) ?_
  kernel_rfl
def R10_14 [q : Hid (V → H → Prop)] : X → E → H → Prop := (Qb 0 (Qx (@J10_2 q) (@Q10_1 q)))
def Q10_14 [q : Hid (V → H → Prop)] [g10_14 : Hid (V → V → V → V → V → H → Prop)] : X → E → H → Prop := Qx (fun e h => g10_14.un (e 7) (e 8) (e 9) (e 11) (e 12) h) (@R10_14 q)
def Q10_15 [q : Hid (V → H → Prop)] [g10_14 : Hid (V → V → V → V → V → H → Prop)] : X → E → H → Prop := (@Q10_14 q g10_14)
def K10_15 (x7 x8 x9 x11 x12 : V) (h : H) [q : Hid (V → H → Prop)] [g10_14 : Hid (V → V → V → V → V → H → Prop)] : Prop := @Bnd V (bin .add x12 (.i .i64 1)) ⟨fun v1 => @Hid.un (V → V → V → V → V → H → Prop) g10_14 x7 x8 x9 x11 v1 h⟩
def J10_15 [q : Hid (V → H → Prop)] [g10_14 : Hid (V → V → V → V → V → H → Prop)] : E → H → Prop := fun e h => @K10_15 (e 7) (e 8) (e 9) (e 11) (e 12) h q g10_14
theorem p10_15 [q : Hid (V → H → Prop)] [g10_14 : Hid (V → V → V → V → V → H → Prop)] : den IP c10_15 (@Q10_15 q g10_14) = @J10_15 q g10_14 := by kernel_rfl
def Q10_16 [q : Hid (V → H → Prop)] [g10_14 : Hid (V → V → V → V → V → H → Prop)] : X → E → H → Prop := (Qb 1 (Qx (@J10_15 q g10_14) (@Q10_14 q g10_14)))
def K10_16 (x7 x8 x9 x11 x12 : V) (h : H) [q : Hid (V → H → Prop)] [g10_14 : Hid (V → V → V → V → V → H → Prop)] : Prop := @Bnd V (bin .neq x12 x11) ⟨fun v1 => @Sel v1 ⟨@Bnd V (vLdA h 2 x8) ⟨fun v2 => @Bnd V (vCvi .u64 x12) ⟨fun v3 => @wF IP 67 [v2, v3] h ⟨fun v4 h5 => @Bnd V (bin .add x12 (.i .i64 1)) ⟨fun v6 => @Bnd V (vCvi .u64 v6) ⟨fun v7 => @wF IP 66 [x9, v4, v7] h5 ⟨fun v8 h9 => @K10_15 x7 x8 x9 x11 x12 h9 q g10_14⟩⟩⟩⟩⟩⟩⟩ ⟨@K10_15 x7 x8 x9 x11 x12 h q g10_14⟩⟩
def J10_16 [q : Hid (V → H → Prop)] [g10_14 : Hid (V → V → V → V → V → H → Prop)] : E → H → Prop := fun e h => @K10_16 (e 7) (e 8) (e 9) (e 11) (e 12) h q g10_14
theorem p10_16 [q : Hid (V → H → Prop)] [g10_14 : Hid (V → V → V → V → V → H → Prop)] : den IP c10_16 (@Q10_16 q g10_14) = @J10_16 q g10_14 := by kernel_rfl
def Q10_17 [q : Hid (V → H → Prop)] [g10_14 : Hid (V → V → V → V → V → H → Prop)] : X → E → H → Prop := (Qx (@J10_16 q g10_14) (Qb 1 (Qx (@J10_15 q g10_14) (@Q10_14 q g10_14))))
def K10_17 (x7 x8 x9 x11 x12 x79 : V) (h : H) [q : Hid (V → H → Prop)] [g10_14 : Hid (V → V → V → V → V → H → Prop)] : Prop := @Sel x79 ⟨@Hid.un (V → H → Prop) q (.b false) h⟩ ⟨@K10_16 x7 x8 x9 x11 x12 h q g10_14⟩
def J10_17 [q : Hid (V → H → Prop)] [g10_14 : Hid (V → V → V → V → V → H → Prop)] : E → H → Prop := fun e h => @K10_17 (e 7) (e 8) (e 9) (e 11) (e 12) (e 79) h q g10_14
theorem p10_17 [q : Hid (V → H → Prop)] [g10_14 : Hid (V → V → V → V → V → H → Prop)] : den IP c10_17 (@Q10_17 q g10_14) = @J10_17 q g10_14 := by kernel_rfl
def S10_23 [q : Hid (V → H → Prop)] [g10_14 : Hid (V → V → V → V → V → H → Prop)] : E → H → Prop := ((Qx (@J10_17 q g10_14) (Qx (@J10_16 q g10_14) (Qb 1 (Qx (@J10_15 q g10_14) (@Q10_14 q g10_14))))) X.normal)
def K10_23 (x7 x8 x9 x11 x12 x71 x78 : V) (h : H) [q : Hid (V → H → Prop)] [g10_14 : Hid (V → V → V → V → V → H → Prop)] : Prop := @Bnd V (vPick x71 (.b true) x78) ⟨fun v1 => @K10_17 x7 x8 x9 x11 x12 v1 h q g10_14⟩
def J10_23 [q : Hid (V → H → Prop)] [g10_14 : Hid (V → V → V → V → V → H → Prop)] : E → H → Prop := fun e h => @K10_23 (e 7) (e 8) (e 9) (e 11) (e 12) (e 71) (e 78) h q g10_14
theorem p10_23 [q : Hid (V → H → Prop)] [g10_14 : Hid (V → V → V → V → V → H → Prop)] : denOps IP o10_18 (@S10_23 q g10_14) = @J10_23 q g10_14 := by
  refine Eq.trans (app_eq rfl rfl) ?_
  kernel_rfl
def S10_24 [q : Hid (V → H → Prop)] [g10_14 : Hid (V → V → V → V → V → H → Prop)] : E → H → Prop := ((Qx (@J10_17 q g10_14) (Qx (@J10_16 q g10_14) (Qb 1 (Qx (@J10_15 q g10_14) (@Q10_14 q g10_14))))) X.normal)
def K10_24 (x7 x8 x9 x11 x12 x64 x69 : V) (h : H) [q : Hid (V → H → Prop)] [g10_14 : Hid (V → V → V → V → V → H → Prop)] : Prop := @Bnd V (vPick x64 (.b true) x69) ⟨fun v1 => @Grd v1 false ⟨@Bnd V (vLdA h 2 x8) ⟨fun v2 => @Bnd V (bin .add x12 x7) ⟨fun v3 => @Bnd V (vCvi .u64 v3) ⟨fun v4 => @wF IP 64 [x9, v2, v4] h ⟨fun v5 h6 => @K10_23 x7 x8 x9 x11 x12 v1 v5 h6 q g10_14⟩⟩⟩⟩⟩ ⟨@K10_23 x7 x8 x9 x11 x12 v1 undefV h q g10_14⟩⟩
def J10_24 [q : Hid (V → H → Prop)] [g10_14 : Hid (V → V → V → V → V → H → Prop)] : E → H → Prop := fun e h => @K10_24 (e 7) (e 8) (e 9) (e 11) (e 12) (e 64) (e 69) h q g10_14
theorem p10_24 [q : Hid (V → H → Prop)] [g10_14 : Hid (V → V → V → V → V → H → Prop)] : denOps IP o10_20 (@S10_24 q g10_14) = @J10_24 q g10_14 := by
  refine Eq.trans (app_eq (grp_eq2 71 false rfl (@p10_23 q g10_14) rfl) rfl) ?_
  kernel_rfl
def L10_14 (x7 x8 x9 x11 x12 : V) (h : H) [q : Hid (V → H → Prop)] [g10_14 : Hid (V → V → V → V → V → H → Prop)] : Prop := @Bnd V (bin .lss x12 x7) ⟨fun v1 => @Sel v1 ⟨@Bnd V (vLdA h 2 x8) ⟨fun v2 => @Bnd V (vCvi .u64 x12) ⟨fun v3 => @wF IP 64 [x9, v2, v3] h ⟨fun v4 h5 => @Bnd V (un .not v4) ⟨fun v6 => @Grd v6 false ⟨@Bnd V (vLdA h5 2 x8) ⟨fun v7 => @Bnd V (vCvi .u64 x12) ⟨fun v8 => @wF IP 65 [x9, v7, v8] h5 ⟨fun v9 h10 => @K10_24 x7 x8 x9 x11 x12 v6 v9 h10 q g10_14⟩⟩⟩⟩ ⟨@K10_24 x7 x8 x9 x11 x12 v6 undefV h5 q g10_14⟩⟩⟩⟩⟩⟩ ⟨@K10_2 x7 x8 x9 x11 h q⟩⟩
theorem p10_14 [q : Hid (V → H → Prop)] [g10_14 : Hid (V → V → V → V → V → H → Prop)] : den IP c10_14 (@Q10_14 q g10_14) = fun e h => @L10_14 (e 7) (e 8) (e 9) (e 11) (e 12) h q g10_14 := by
  refine Eq.trans (seq_eq (seq_eq (@p10_15 q g10_14) (block_eq (seq_eq (@p10_16 q g10_14) (seq_eq (@p10_17 q g10_14) (region_eq (app_eq (grp_eq2 64 false rfl (@p10_24 q g10_14) rfl) rfl)))))) rfl) ?_
  kernel_rfl
def W10_14 (x7 x8 x9 x11 x12 : V) (h : H) [q : Hid (V → H → Prop)] : Prop := wFix (fun (g : V × V × V × V × V × Unit → H → Prop) (x : V × V × V × V × V × Unit) h => @L10_14 x.1 x.2.1 x.2.2.1 x.2.2.2.1 x.2.2.2.2.1 h q ⟨fun y7 y8 y9 y11 y12 h => g (y7, y8, y9, y11, y12, ()) h⟩) (x7, x8, x9, x11, x12, ()) h
theorem n10_14 [q : Hid (V → H → Prop)] : ∀ g : V × V × V × V × V × Unit → H → Prop, den IP c10_14 (Qx (fun e h => g ((fun e : E => ((e 7, e 8, e 9, e 11, e 12, ()) : V × V × V × V × V × Unit)) e) h) (@R10_14 q)) = fun e h => (fun (g : V × V × V × V × V × Unit → H → Prop) (x : V × V × V × V × V × Unit) h => @L10_14 x.1 x.2.1 x.2.2.1 x.2.2.2.1 x.2.2.2.2.1 h q ⟨fun y7 y8 y9 y11 y12 h => g (y7, y8, y9, y11, y12, ()) h⟩) g ((fun e : E => ((e 7, e 8, e 9, e 11, e 12, ()) : V × V × V × V × V × Unit)) e) h := fun g => @p10_14 q ⟨fun y7 y8 y9 y11 y12 h => g (y7, y8, y9, y11, y12, ()) h⟩
theorem w10_14 [q : Hid (V → H → Prop)] : den IP (.loop c10_14) (@R10_14 q) = fun e h => @W10_14 (e 7) (e 8) (e 9) (e 11) (e 12) h q := loop_eq (fun e : E => ((e 7, e 8, e 9, e 11, e 12, ()) : V × V × V × V × V × Unit)) (fun (g : V × V × V × V × V × Unit → H → Prop) (x : V × V × V × V × V × Unit) h => @L10_14 x.1 x.2.1 x.2.2.1 x.2.2.2.1 x.2.2.2.2.1 h q ⟨fun y7 y8 y9 y11 y12 h => g (y7, y8, y9, y11, y12, ()) h⟩) (@n10_14 q)
theorem m10_14 [q : Hid (V → H → Prop)] : Mono (fun (g : V × V × V × V × V × Unit → H → Prop) (x : V × V × V × V × V × Unit) h => @L10_14 x.1 x.2.1 x.2.2.1 x.2.2.2.1 x.2.2.2.2.1 h q ⟨fun y7 y8 y9 y11 y12 h => g (y7, y8, y9, y11, y12, ()) h⟩) := mono_of (p := (fun e : E => ((e 7, e 8, e 9, e 11, e 12, ()) : V × V × V × V × V × Unit))) (fun x : V × V × V × V × V × Unit => upd (upd (upd (upd (upd (fun _ => undefV) 12 (x.2.2.2.2.1)) 11 (x.2.2.2.1)) 9 (x.2.2.1)) 8 (x.2.1)) 7 (x.1)) (fun _ => rfl) (@n10_14 q)
theorem W10_14_inv {q : Hid (V → H → Prop)} (I : Nat → V → V → V → V → V → H → Prop) (step : ∀ n x7 x8 x9 x11 x12 h, I n x7 x8 x9 x11 x12 h → @L10_14 x7 x8 x9 x11 x12 h q ⟨fun y7 y8 y9 y11 y12 h => ∃ m, m < n ∧ I m y7 y8 y9 y11 y12 h⟩) (n : Nat) (x7 x8 x9 x11 x12 : V) (h : H) (hi : I n x7 x8 x9 x11 x12 h) : @W10_14 x7 x8 x9 x11 x12 h q :=
  wFix_inv (@m10_14 q) (fun n x h => I n x.1 x.2.1 x.2.2.1 x.2.2.2.1 x.2.2.2.2.1 h) (fun n x h hi => step n x.1 x.2.1 x.2.2.1 x.2.2.2.1 x.2.2.2.2.1 h hi) n (x7, x8, x9, x11, x12, ()) h hi
theorem W10_14_eq (x7 x8 x9 x11 x12 : V) (h : H) {q : Hid (V → H → Prop)} : @W10_14 x7 x8 x9 x11 x12 h q ↔ @L10_14 x7 x8 x9 x11 x12 h q ⟨fun y7 y8 y9 y11 y12 h => @W10_14 y7 y8 y9 y11 y12 h q⟩ := wFix_unroll (@m10_14 q) (x7, x8, x9, x11, x12, ()) h
def K10_1 (x2 x7 x8 x9 : V) (h : H) [q : Hid (V → H → Prop)] : Prop := @Bnd V (bin .and x2 (.i .i64 15)) ⟨fun v1 => @Bnd V (bin .add x7 (.i .i64 1)) ⟨fun v2 => @Bnd V (bin .rem v1 v2) ⟨fun v3 => @W10_14 x7 x8 x9 v3 (.i .i64 0) h q⟩⟩⟩
def J10_1 [q : Hid (V → H → Prop)] : E → H → Prop := fun e h => @K10_1 (e 2) (e 7) (e 8) (e 9) h q
theorem p10_1 [q : Hid (V → H → Prop)] : den IP c10_1 (@Q10_1 q) = @J10_1 q := by
  refine Eq.trans (seq_eq (seq_eq (@p10_2 q) (seq_eq (block_eq (@w10_14 q)) rfl)) rfl) ?_
  kernel_rfl
def Q10_25 [q : Hid (V → H → Prop)] : X → E → H → Prop := (Qx (@J10_1 q) (@Q10 q))
def K10_25 (x2 x7 x8 x9 x47 : V) (h : H) [q : Hid (V → H → Prop)] : Prop := @Sel x47 ⟨@Hid.un (V → H → Prop) q (.b false) h⟩ ⟨@K10_1 x2 x7 x8 x9 h q⟩
def J10_25 [q : Hid (V → H → Prop)] : E → H → Prop := fun e h => @K10_25 (e 2) (e 7) (e 8) (e 9) (e 47) h q
theorem p10_25 [q : Hid (V → H → Prop)] : den IP c10_25 (@Q10_25 q) = @J10_25 q := by kernel_rfl
def S10_31 [q : Hid (V → H → Prop)] : E → H → Prop := ((Qx (@J10_25 q) (Qx (@J10_1 q) (@Q10 q))) X.normal)
def K10_31 (x2 x7 x8 x9 x41 x46 : V) (h : H) [q : Hid (V → H → Prop)] : Prop := @Bnd V (vPick x41 (.b true) x46) ⟨fun v1 => @K10_25 x2 x7 x8 x9 v1 h q⟩
def J10_31 [q : Hid (V → H → Prop)] : E → H → Prop := fun e h => @K10_31 (e 2) (e 7) (e 8) (e 9) (e 41) (e 46) h q
theorem p10_31 [q : Hid (V → H → Prop)] : denOps IP o10_26 (@S10_31 q) = @J10_31 q := by
  refine Eq.trans (app_eq rfl rfl) ?_
  kernel_rfl
def S10_32 [q : Hid (V → H → Prop)] : E → H → Prop := ((Qx (@J10_25 q) (Qx (@J10_1 q) (@Q10 q))) X.normal)
def K10_32 (x2 x7 x8 x9 x35 x39 : V) (h : H) [q : Hid (V → H → Prop)] : Prop := @Bnd V (vPick x35 (.b true) x39) ⟨fun v1 => @Grd v1 false ⟨@Bnd V (vBld [(.i .i64 0), (.i .i64 0)] [(0, 1, (.i .i64 (-1))), (1, 1, x7)]) ⟨fun v2 => @wF IP 63 [x9, v2] h ⟨fun v3 h4 => @Bnd V (bin .neq v3 (.i .i64 1)) ⟨fun v5 => @K10_31 x2 x7 x8 x9 v1 v5 h4 q⟩⟩⟩⟩ ⟨@K10_31 x2 x7 x8 x9 v1 undefV h q⟩⟩
def J10_32 [q : Hid (V → H → Prop)] : E → H → Prop := fun e h => @K10_32 (e 2) (e 7) (e 8) (e 9) (e 35) (e 39) h q
theorem p10_32 [q : Hid (V → H → Prop)] : denOps IP o10_28 (@S10_32 q) = @J10_32 q := by
  refine Eq.trans (app_eq (grp_eq2 41 false rfl (@p10_31 q) rfl) rfl) ?_
  kernel_rfl
def K10 (x0 x1 x2 : V) (h : H) [q : Hid (V → H → Prop)] : Prop := @Bnd V (bin .and x1 (.i .i64 3)) ⟨fun v1 => @Bnd V (vCvi .u64 v1) ⟨fun v2 => @Bnd V (bin .shl (.i .i64 2) v2) ⟨fun v3 => @Bnd V (bin .and x0 (.i .i64 63)) ⟨fun v4 => @Bnd V (vBld [(.i .i64 0), (.i .i64 0)] [(0, 1, v4), (1, 1, v3)]) ⟨fun v5 => @Bnd (V × H) (some (.p (some (H.nx h, 0)), H.new h ⟨false, [(.i .i64 0), (.i .i64 0)]⟩)) ⟨fun r6 => @Bnd (V × H) (vStore r6.2 2 r6.1 v5) ⟨fun r7 => @Bnd V (vFa 0 r6.1) ⟨fun v8 => @Bnd V (vLd1 r7.2 v8) ⟨fun v9 => @wF IP 62 [v3] r7.2 ⟨fun v10 h11 => @Bnd V (bin .add v9 v10) ⟨fun v12 => @wF IP 61 [v12] h11 ⟨fun v13 h14 => @Chk (stdy false 1 v8 r7.2 h11) ⟨@Bnd V (vFa 0 r6.1) ⟨fun v15 => @Bnd V (vLd1 h14 v15) ⟨fun v16 => @Bnd V (bin .add v16 (.i .i64 1)) ⟨fun v17 => @wF IP 61 [v17] h14 ⟨fun v18 h19 => @Bnd V (vLdA h19 2 r6.1) ⟨fun v20 => @wF IP 63 [v13, v20] h19 ⟨fun v21 h22 => @Bnd V (bin .neq v21 (.i .i64 0)) ⟨fun v23 => @Grd v23 false ⟨@Bnd V (vLdA h22 2 r6.1) ⟨fun v24 => @wF IP 63 [v18, v24] h22 ⟨fun v25 h26 => @Bnd V (bin .neq v25 (.i .i64 1)) ⟨fun v27 => @K10_32 x2 v3 r6.1 v13 v23 v27 h26 q⟩⟩⟩⟩ ⟨@K10_32 x2 v3 r6.1 v13 v23 undefV h22 q⟩⟩⟩⟩⟩⟩⟩⟩⟩⟩⟩⟩⟩⟩⟩⟩⟩⟩⟩⟩⟩
theorem p10 [q : Hid (V → H → Prop)] : den IP c10 (@Q10 q) = fun e h => @K10 (e 0) (e 1) (e 2) h q := by
  refine Eq.trans (seq_eq (seq_eq (seq_eq (seq_eq (seq_eq (seq_eq (@p10_1 q) (seq_eq (@p10_25 q) (region_eq (app_eq (grp_eq2 35 false rfl (@p10_32 q) rfl) rfl)))) rfl) rfl) rfl) rfl) rfl) ?_
  kernel_rfl
theorem f10 (a0 a1 a2 : V) (h : H) (Q : V → H → Prop) : @wF IP 10 [a0, a1, a2] h ⟨Q⟩ ↔ @K10 a0 a1 a2 h ⟨Q⟩ := (Fnc_den (ip10) (by kernel_rfl) (by kernel_rfl) h Q).trans (iff_of_eq (congrFun (congrFun (@p10 ⟨Q⟩) _) h))
theorem ip61 : IP 61 = some ir61 := rfl
def Q61 [q : Hid (V → H → Prop)] : X → E → H → Prop := Qr rs61 q.un
def Q61_1 [q : Hid (V → H → Prop)] : X → E → H → Prop := (@Q61 q)
def K61_1 (x0 : V) (h : H) [q : Hid (V → H → Prop)] : Prop := @Bnd (V × H) (vMake 8 [(.i .u64 0)] x0 h) ⟨fun r1 => @Bnd V (vBld [.nsl, .nsl, (.i .i64 0)] [(0, 1, r1.1)]) ⟨fun v2 => @Bnd (V × H) (vBox v2 r1.2) ⟨fun r3 => @Hid.un (V → H → Prop) q r3.1 r3.2⟩⟩⟩
def J61_1 [q : Hid (V → H → Prop)] : E → H → Prop := fun e h => @K61_1 (e 0) h q
theorem p61_1 [q : Hid (V → H → Prop)] : den IP c61_1 (@Q61_1 q) = @J61_1 q := by kernel_rfl
def Q61_2 [q : Hid (V → H → Prop)] : X → E → H → Prop := (Qx (@J61_1 q) (@Q61 q))
def K61_2 (x0 x8 : V) (h : H) [q : Hid (V → H → Prop)] : Prop := @Sel x8 ⟨@Hid.un (V → H → Prop) q (.p none) h⟩ ⟨@K61_1 x0 h q⟩
def J61_2 [q : Hid (V → H → Prop)] : E → H → Prop := fun e h => @K61_2 (e 0) (e 8) h q
theorem p61_2 [q : Hid (V → H → Prop)] : den IP c61_2 (@Q61_2 q) = @J61_2 q := by kernel_rfl
def S61_6 [q : Hid (V → H → Prop)] : E → H → Prop := ((Qx (@J61_2 q) (Qx (@J61_1 q) (@Q61 q))) X.normal)
def K61_6 (x0 x5 x7 : V) (h : H) [q : Hid (V → H → Prop)] : Prop := @Bnd V (vPick x5 (.b true) x7) ⟨fun v1 => @K61_2 x0 v1 h q⟩
def J61_6 [q : Hid (V → H → Prop)] : E → H → Prop := fun e h => @K61_6 (e 0) (e 5) (e 7) h q
theorem p61_6 [q : Hid (V → H → Prop)] : denOps IP o61_3 (@S61_6 q) = @J61_6 q := by
  refine Eq.trans (app_eq rfl rfl) ?_
  kernel_rfl
def K61 (x0 : V) (h : H) [q : Hid (V → H → Prop)] : Prop := @Bnd V (bin .lss x0 (.i .i64 1)) ⟨fun v1 => @Grd v1 false ⟨@Bnd V (bin .gtr x0 (.i .i64 16384)) ⟨fun v2 => @K61_6 x0 v1 v2 h q⟩⟩ ⟨@K61_6 x0 v1 undefV h q⟩⟩
theorem p61 [q : Hid (V → H → Prop)] : den IP c61 (@Q61 q) = fun e h => @K61 (e 0) h q := by
  refine Eq.trans (seq_eq (seq_eq (@p61_1 q) (seq_eq (@p61_2 q) (region_eq (app_eq (grp_eq2 5 false rfl (@p61_6 q) rfl) rfl)))) rfl) ?_
  kernel_rfl
theorem f61 (a0 : V) (h : H) (Q : V → H → Prop) : @wF IP 61 [a0] h ⟨Q⟩ ↔ @K61 a0 h ⟨Q⟩ := (Fnc_den (ip61) (by kernel_rfl) (by kernel_rfl) h Q).trans (iff_of_eq (congrFun (congrFun (@p61 ⟨Q⟩) _) h))
theorem ip62 : IP 62 = some ir62 := rfl
def Q62 [q : Hid (V → H → Prop)] : X → E → H → Prop := Qr rs62 q.un
def K62 (x0 : V) (h : H) [q : Hid (V → H → Prop)] : Prop := @Bnd V (foldO max2 x0 [(.i .i64 0)]) ⟨fun v1 => @Bnd V (foldO min2 v1 [(.i .i64 64)]) ⟨fun v2 => @Bnd V (bin .mul v2 (.i .i64 4)) ⟨fun v3 => @Bnd V (bin .add (.i .i64 1) v3) ⟨fun v4 => @Hid.un (V → H → Prop) q v4 h⟩⟩⟩⟩
theorem p62 [q : Hid (V → H → Prop)] : den IP c62 (@Q62 q) = fun e h => @K62 (e 0) h q := by kernel_rfl
theorem f62 (a0 : V) (h : H) (Q : V → H → Prop) : @wF IP 62 [a0] h ⟨Q⟩ ↔ @K62 a0 h ⟨Q⟩ := (Fnc_den (ip62) (by kernel_rfl) (by kernel_rfl) h Q).trans (iff_of_eq (congrFun (congrFun (@p62 ⟨Q⟩) _) h))
theorem ip63 : IP 63 = some ir63 := rfl
def Q63 [q : Hid (V → H → Prop)] : X → E → H → Prop := Qr rs63 q.un
def Q63_1 [q : Hid (V → H → Prop)] : X → E → H → Prop := (@Q63 q)
def Q63_2 [q : Hid (V → H → Prop)] : X → E → H → Prop := (@Q63_1 q)
def K63_2 (h : H) [q : Hid (V → H → Prop)] : Prop := @Hid.un (V → H → Prop) q (.i .i64 0) h
def J63_2 [q : Hid (V → H → Prop)] : E → H → Prop := fun e h => @K63_2 h q
theorem p63_2 [q : Hid (V → H → Prop)] : den IP c63_2 (@Q63_2 q) = @J63_2 q := by kernel_rfl
def R63_3 [q : Hid (V → H → Prop)] : X → E → H → Prop := (Qb 0 (Qx (@J63_2 q) (@Q63_1 q)))
def Q63_3 [q : Hid (V → H → Prop)] [g63_3 : Hid (V → V → V → V → H → Prop)] : X → E → H → Prop := Qx (fun e h => g63_3.un (e 0) (e 3) (e 26) (e 27) h) (@R63_3 q)
def Q63_4 [q : Hid (V → H → Prop)] [g63_3 : Hid (V → V → V → V → H → Prop)] : X → E → H → Prop := (@Q63_3 q g63_3)
def K63_4 (x0 x3 x26 x27 : V) (h : H) [q : Hid (V → H → Prop)] [g63_3 : Hid (V → V → V → V → H → Prop)] : Prop := @Bnd V (bin .add x27 (.i .i64 1)) ⟨fun v1 => @Hid.un (V → V → V → V → H → Prop) g63_3 x0 x3 x26 v1 h⟩
def J63_4 [q : Hid (V → H → Prop)] [g63_3 : Hid (V → V → V → V → H → Prop)] : E → H → Prop := fun e h => @K63_4 (e 0) (e 3) (e 26) (e 27) h q g63_3
theorem p63_4 [q : Hid (V → H → Prop)] [g63_3 : Hid (V → V → V → V → H → Prop)] : den IP c63_4 (@Q63_4 q g63_3) = @J63_4 q g63_3 := by kernel_rfl
def R63_5 [q : Hid (V → H → Prop)] [g63_3 : Hid (V → V → V → V → H → Prop)] : X → E → H → Prop := (Qb 2 (Qb 1 (Qx (@J63_4 q g63_3) (@Q63_3 q g63_3))))
def Q63_5 [q : Hid (V → H → Prop)] [g63_3 : Hid (V → V → V → V → H → Prop)] [g63_5 : Hid (V → V → V → V → V → V → H → Prop)] : X → E → H → Prop := Qx (fun e h => g63_5.un (e 0) (e 3) (e 5) (e 26) (e 27) (e 38) h) (@R63_5 q g63_3)
def L63_5 (x0 x3 x5 x26 x27 x38 : V) (h : H) [q : Hid (V → H → Prop)] [g63_3 : Hid (V → V → V → V → H → Prop)] [g63_5 : Hid (V → V → V → V → V → V → H → Prop)] : Prop := @Bnd V (bin .lss x38 (.i .i64 3)) ⟨fun v1 => @Sel v1 ⟨@Bnd V (vLdA h 2 x3) ⟨fun v2 => @Bnd V (vCvi .u64 x5) ⟨fun v3 => @wF IP 113 [v2, v3] h ⟨fun v4 h5 => @Bnd V (bin .add v4 (.i .i64 1)) ⟨fun v6 => @Bnd V (bin .add v6 x38) ⟨fun v7 => @wF IP 66 [x0, v7, (.i .u64 0)] h5 ⟨fun v8 h9 => @Bnd V (bin .add x38 (.i .i64 1)) ⟨fun v10 => @Hid.un (V → V → V → V → V → V → H → Prop) g63_5 x0 x3 x5 x26 x27 v10 h9⟩⟩⟩⟩⟩⟩⟩⟩ ⟨@K63_4 x0 x3 x26 x27 h q g63_3⟩⟩
theorem p63_5 [q : Hid (V → H → Prop)] [g63_3 : Hid (V → V → V → V → H → Prop)] [g63_5 : Hid (V → V → V → V → V → V → H → Prop)] : den IP c63_5 (@Q63_5 q g63_3 g63_5) = fun e h => @L63_5 (e 0) (e 3) (e 5) (e 26) (e 27) (e 38) h q g63_3 g63_5 := by kernel_rfl
def W63_5 (x0 x3 x5 x26 x27 x38 : V) (h : H) [q : Hid (V → H → Prop)] [g63_3 : Hid (V → V → V → V → H → Prop)] : Prop := wFix (fun (g : V × V × V × V × V × V × Unit → H → Prop) (x : V × V × V × V × V × V × Unit) h => @L63_5 x.1 x.2.1 x.2.2.1 x.2.2.2.1 x.2.2.2.2.1 x.2.2.2.2.2.1 h q g63_3 ⟨fun y0 y3 y5 y26 y27 y38 h => g (y0, y3, y5, y26, y27, y38, ()) h⟩) (x0, x3, x5, x26, x27, x38, ()) h
theorem n63_5 [q : Hid (V → H → Prop)] [g63_3 : Hid (V → V → V → V → H → Prop)] : ∀ g : V × V × V × V × V × V × Unit → H → Prop, den IP c63_5 (Qx (fun e h => g ((fun e : E => ((e 0, e 3, e 5, e 26, e 27, e 38, ()) : V × V × V × V × V × V × Unit)) e) h) (@R63_5 q g63_3)) = fun e h => (fun (g : V × V × V × V × V × V × Unit → H → Prop) (x : V × V × V × V × V × V × Unit) h => @L63_5 x.1 x.2.1 x.2.2.1 x.2.2.2.1 x.2.2.2.2.1 x.2.2.2.2.2.1 h q g63_3 ⟨fun y0 y3 y5 y26 y27 y38 h => g (y0, y3, y5, y26, y27, y38, ()) h⟩) g ((fun e : E => ((e 0, e 3, e 5, e 26, e 27, e 38, ()) : V × V × V × V × V × V × Unit)) e) h := fun g => @p63_5 q g63_3 ⟨fun y0 y3 y5 y26 y27 y38 h => g (y0, y3, y5, y26, y27, y38, ()) h⟩
theorem w63_5 [q : Hid (V → H → Prop)] [g63_3 : Hid (V → V → V → V → H → Prop)] : den IP (.loop c63_5) (@R63_5 q g63_3) = fun e h => @W63_5 (e 0) (e 3) (e 5) (e 26) (e 27) (e 38) h q g63_3 := loop_eq (fun e : E => ((e 0, e 3, e 5, e 26, e 27, e 38, ()) : V × V × V × V × V × V × Unit)) (fun (g : V × V × V × V × V × V × Unit → H → Prop) (x : V × V × V × V × V × V × Unit) h => @L63_5 x.1 x.2.1 x.2.2.1 x.2.2.2.1 x.2.2.2.2.1 x.2.2.2.2.2.1 h q g63_3 ⟨fun y0 y3 y5 y26 y27 y38 h => g (y0, y3, y5, y26, y27, y38, ()) h⟩) (@n63_5 q g63_3)
theorem m63_5 [q : Hid (V → H → Prop)] [g63_3 : Hid (V → V → V → V → H → Prop)] : Mono (fun (g : V × V × V × V × V × V × Unit → H → Prop) (x : V × V × V × V × V × V × Unit) h => @L63_5 x.1 x.2.1 x.2.2.1 x.2.2.2.1 x.2.2.2.2.1 x.2.2.2.2.2.1 h q g63_3 ⟨fun y0 y3 y5 y26 y27 y38 h => g (y0, y3, y5, y26, y27, y38, ()) h⟩) := mono_of (p := (fun e : E => ((e 0, e 3, e 5, e 26, e 27, e 38, ()) : V × V × V × V × V × V × Unit))) (fun x : V × V × V × V × V × V × Unit => upd (upd (upd (upd (upd (upd (fun _ => undefV) 38 (x.2.2.2.2.2.1)) 27 (x.2.2.2.2.1)) 26 (x.2.2.2.1)) 5 (x.2.2.1)) 3 (x.2.1)) 0 (x.1)) (fun _ => rfl) (@n63_5 q g63_3)
theorem W63_5_inv {q : Hid (V → H → Prop)} {g63_3 : Hid (V → V → V → V → H → Prop)} (I : Nat → V → V → V → V → V → V → H → Prop) (step : ∀ n x0 x3 x5 x26 x27 x38 h, I n x0 x3 x5 x26 x27 x38 h → @L63_5 x0 x3 x5 x26 x27 x38 h q g63_3 ⟨fun y0 y3 y5 y26 y27 y38 h => ∃ m, m < n ∧ I m y0 y3 y5 y26 y27 y38 h⟩) (n : Nat) (x0 x3 x5 x26 x27 x38 : V) (h : H) (hi : I n x0 x3 x5 x26 x27 x38 h) : @W63_5 x0 x3 x5 x26 x27 x38 h q g63_3 :=
  wFix_inv (@m63_5 q g63_3) (fun n x h => I n x.1 x.2.1 x.2.2.1 x.2.2.2.1 x.2.2.2.2.1 x.2.2.2.2.2.1 h) (fun n x h hi => step n x.1 x.2.1 x.2.2.1 x.2.2.2.1 x.2.2.2.2.1 x.2.2.2.2.2.1 h hi) n (x0, x3, x5, x26, x27, x38, ()) h hi
theorem W63_5_eq (x0 x3 x5 x26 x27 x38 : V) (h : H) {q : Hid (V → H → Prop)} {g63_3 : Hid (V → V → V → V → H → Prop)} : @W63_5 x0 x3 x5 x26 x27 x38 h q g63_3 ↔ @L63_5 x0 x3 x5 x26 x27 x38 h q g63_3 ⟨fun y0 y3 y5 y26 y27 y38 h => @W63_5 y0 y3 y5 y26 y27 y38 h q g63_3⟩ := wFix_unroll (@m63_5 q g63_3) (x0, x3, x5, x26, x27, x38, ()) h
def L63_3 (x0 x3 x26 x27 : V) (h : H) [q : Hid (V → H → Prop)] [g63_3 : Hid (V → V → V → V → H → Prop)] : Prop := @Bnd V (bin .lss x27 x26) ⟨fun v1 => @Sel v1 ⟨@Bnd V (vLdA h 2 x3) ⟨fun v2 => @Bnd V (vCvi .u64 x27) ⟨fun v3 => @wF IP 113 [v2, v3] h ⟨fun v4 h5 => @Bnd V (vCvi .u64 x27) ⟨fun v6 => @wF IP 66 [x0, v4, v6] h5 ⟨fun v7 h8 => @W63_5 x0 x3 x27 x26 x27 (.i .i64 0) h8 q g63_3⟩⟩⟩⟩⟩⟩ ⟨@K63_2 h q⟩⟩
theorem p63_3 [q : Hid (V → H → Prop)] [g63_3 : Hid (V → V → V → V → H → Prop)] : den IP c63_3 (@Q63_3 q g63_3) = fun e h => @L63_3 (e 0) (e 3) (e 26) (e 27) h q g63_3 := by
  refine Eq.trans (seq_eq (seq_eq (seq_eq (@p63_4 q g63_3) (block_eq (seq_eq (seq_eq (seq_eq (block_eq (@w63_5 q g63_3)) rfl) rfl) rfl))) rfl) rfl) ?_
  kernel_rfl
def W63_3 (x0 x3 x26 x27 : V) (h : H) [q : Hid (V → H → Prop)] : Prop := wFix (fun (g : V × V × V × V × Unit → H → Prop) (x : V × V × V × V × Unit) h => @L63_3 x.1 x.2.1 x.2.2.1 x.2.2.2.1 h q ⟨fun y0 y3 y26 y27 h => g (y0, y3, y26, y27, ()) h⟩) (x0, x3, x26, x27, ()) h
theorem n63_3 [q : Hid (V → H → Prop)] : ∀ g : V × V × V × V × Unit → H → Prop, den IP c63_3 (Qx (fun e h => g ((fun e : E => ((e 0, e 3, e 26, e 27, ()) : V × V × V × V × Unit)) e) h) (@R63_3 q)) = fun e h => (fun (g : V × V × V × V × Unit → H → Prop) (x : V × V × V × V × Unit) h => @L63_3 x.1 x.2.1 x.2.2.1 x.2.2.2.1 h q ⟨fun y0 y3 y26 y27 h => g (y0, y3, y26, y27, ()) h⟩) g ((fun e : E => ((e 0, e 3, e 26, e 27, ()) : V × V × V × V × Unit)) e) h := fun g => @p63_3 q ⟨fun y0 y3 y26 y27 h => g (y0, y3, y26, y27, ()) h⟩
theorem w63_3 [q : Hid (V → H → Prop)] : den IP (.loop c63_3) (@R63_3 q) = fun e h => @W63_3 (e 0) (e 3) (e 26) (e 27) h q := loop_eq (fun e : E => ((e 0, e 3, e 26, e 27, ()) : V × V × V × V × Unit)) (fun (g : V × V × V × V × Unit → H → Prop) (x : V × V × V × V × Unit) h => @L63_3 x.1 x.2.1 x.2.2.1 x.2.2.2.1 h q ⟨fun y0 y3 y26 y27 h => g (y0, y3, y26, y27, ()) h⟩) (@n63_3 q)
theorem m63_3 [q : Hid (V → H → Prop)] : Mono (fun (g : V × V × V × V × Unit → H → Prop) (x : V × V × V × V × Unit) h => @L63_3 x.1 x.2.1 x.2.2.1 x.2.2.2.1 h q ⟨fun y0 y3 y26 y27 h => g (y0, y3, y26, y27, ()) h⟩) := mono_of (p := (fun e : E => ((e 0, e 3, e 26, e 27, ()) : V × V × V × V × Unit))) (fun x : V × V × V × V × Unit => upd (upd (upd (upd (fun _ => undefV) 27 (x.2.2.2.1)) 26 (x.2.2.1)) 3 (x.2.1)) 0 (x.1)) (fun _ => rfl) (@n63_3 q)
theorem W63_3_inv {q : Hid (V → H → Prop)} (I : Nat → V → V → V → V → H → Prop) (step : ∀ n x0 x3 x26 x27 h, I n x0 x3 x26 x27 h → @L63_3 x0 x3 x26 x27 h q ⟨fun y0 y3 y26 y27 h => ∃ m, m < n ∧ I m y0 y3 y26 y27 h⟩) (n : Nat) (x0 x3 x26 x27 : V) (h : H) (hi : I n x0 x3 x26 x27 h) : @W63_3 x0 x3 x26 x27 h q :=
  wFix_inv (@m63_3 q) (fun n x h => I n x.1 x.2.1 x.2.2.1 x.2.2.2.1 h) (fun n x h hi => step n x.1 x.2.1 x.2.2.1 x.2.2.2.1 h hi) n (x0, x3, x26, x27, ()) h hi
theorem W63_3_eq (x0 x3 x26 x27 : V) (h : H) {q : Hid (V → H → Prop)} : @W63_3 x0 x3 x26 x27 h q ↔ @L63_3 x0 x3 x26 x27 h q ⟨fun y0 y3 y26 y27 h => @W63_3 y0 y3 y26 y27 h q⟩ := wFix_unroll (@m63_3 q) (x0, x3, x26, x27, ()) h
def K63_1 (x0 x3 : V) (h : H) [q : Hid (V → H → Prop)] : Prop := @Bnd V (vFa 0 x3) ⟨fun v1 => @Bnd V (vLd1 h v1) ⟨fun v2 => @wF IP 66 [x0, v2, (.i .u64 0)] h ⟨fun v3 h4 => @Bnd V (vFa 1 x3) ⟨fun v5 => @Bnd V (vLd1 h4 v5) ⟨fun v6 => @W63_3 x0 x3 v6 (.i .i64 0) h4 q⟩⟩⟩⟩⟩
def J63_1 [q : Hid (V → H → Prop)] : E → H → Prop := fun e h => @K63_1 (e 0) (e 3) h q
theorem p63_1 [q : Hid (V → H → Prop)] : den IP c63_1 (@Q63_1 q) = @J63_1 q := by
  refine Eq.trans (seq_eq (seq_eq (@p63_2 q) (seq_eq (block_eq (@w63_3 q)) rfl)) rfl) ?_
  kernel_rfl
def Q63_6 [q : Hid (V → H → Prop)] : X → E → H → Prop := (Qx (@J63_1 q) (@Q63 q))
def K63_6 (x0 x3 x20 : V) (h : H) [q : Hid (V → H → Prop)] : Prop := @Sel x20 ⟨@Hid.un (V → H → Prop) q (.i .i64 1) h⟩ ⟨@K63_1 x0 x3 h q⟩
def J63_6 [q : Hid (V → H → Prop)] : E → H → Prop := fun e h => @K63_6 (e 0) (e 3) (e 20) h q
theorem p63_6 [q : Hid (V → H → Prop)] : den IP c63_6 (@Q63_6 q) = @J63_6 q := by kernel_rfl
def S63_10 [q : Hid (V → H → Prop)] : List (E × H) → E → H → Prop := (fun st e h => chkAll o63_9 ((e, h) :: st) 14 [(5, 8), (5, 11)] ((Qx (@J63_6 q) (Qx (@J63_1 q) (@Q63 q))) X.normal e h))
def K63_10 (k11_h : H) (k12_h : H) (k5_10 : V) (k5_11 : V) (k8_h : H) (k9_h : H) (x0 x3 x10 x19 : V) (h : H) [q : Hid (V → H → Prop)] : Prop := @Bnd V (vPick x10 (.b true) x19) ⟨fun v1 => @Chk (stdyG k5_10 false (stdy false 1 k5_11 k8_h k9_h)) ⟨@Chk (stdyG k5_10 false (stdy false 1 k5_11 k11_h k12_h)) ⟨@K63_6 x0 x3 v1 h q⟩⟩⟩
def J63_10 [q : Hid (V → H → Prop)] : List (E × H) → E → H → Prop := fun st e h => @K63_10 (List.getD st 1 eh0).2 (List.getD st 0 eh0).2 ((List.getD st 7 eh0).1 10) ((List.getD st 7 eh0).1 11) (List.getD st 4 eh0).2 (List.getD st 3 eh0).2 (e 0) (e 3) (e 10) (e 19) h q
theorem p63_10 [q : Hid (V → H → Prop)] : denT2 IP o63_7 (@S63_10 q) = @J63_10 q := by
  refine Eq.trans (tapp_eq rfl rfl) ?_
  kernel_rfl
def K63 (x0 x1 : V) (h : H) [q : Hid (V → H → Prop)] : Prop := @Bnd (V × H) (vBox x1 h) ⟨fun r1 => @Bnd V (vLdA r1.2 2 r1.1) ⟨fun v2 => @wF IP 74 [v2] r1.2 ⟨fun v3 h4 => @Bnd V (un .not v3) ⟨fun v5 => @Grd v5 false ⟨@Bnd V (vFa 0 r1.1) ⟨fun v6 => @Bnd V (vLd1 h4 v6) ⟨fun v7 => @Bnd V (vFa 1 r1.1) ⟨fun v8 => @Bnd V (vLd1 h4 v8) ⟨fun v9 => @wF IP 62 [v9] h4 ⟨fun v10 h11 => @Bnd V (bin .add v7 v10) ⟨fun v12 => @wF IP 112 [x0] h11 ⟨fun v13 h14 => @Bnd V (bin .gtr v12 v13) ⟨fun v15 => @K63_10 h11 h14 v5 v6 h4 h11 x0 r1.1 v5 v15 h14 q⟩⟩⟩⟩⟩⟩⟩⟩⟩ ⟨@K63_10 h4 h4 v5 undefV h4 h4 x0 r1.1 v5 undefV h4 q⟩⟩⟩⟩⟩
theorem p63 [q : Hid (V → H → Prop)] : den IP c63 (@Q63 q) = fun e h => @K63 (e 0) (e 1) h q := by
  refine Eq.trans (seq_eq (seq_eq (@p63_1 q) (seq_eq (@p63_6 q) (draw_eq (tapp_eq (tgrp_eq2 10 false rfl (@p63_10 q) rfl) rfl)))) rfl) ?_
  kernel_rfl
theorem f63 (a0 a1 : V) (h : H) (Q : V → H → Prop) : @wF IP 63 [a0, a1] h ⟨Q⟩ ↔ @K63 a0 a1 h ⟨Q⟩ := (Fnc_den (ip63) (by kernel_rfl) (by kernel_rfl) h Q).trans (iff_of_eq (congrFun (congrFun (@p63 ⟨Q⟩) _) h))
theorem ip64 : IP 64 = some ir64 := rfl
def Q64 [q : Hid (V → H → Prop)] : X → E → H → Prop := Qr rs64 q.un
def S64_4 [q : Hid (V → H → Prop)] : E → H → Prop := ((Qx (den IP .ret (@Q64 q)) (@Q64 q)) X.normal)
def K64_4 (x9 x16 : V) (h : H) [q : Hid (V → H → Prop)] : Prop := @Bnd V (vPick x9 x16 (.b false)) ⟨fun v1 => @Hid.un (V → H → Prop) q v1 h⟩
def J64_4 [q : Hid (V → H → Prop)] : E → H → Prop := fun e h => @K64_4 (e 9) (e 16) h q
theorem p64_4 [q : Hid (V → H → Prop)] : denOps IP o64_1 (@S64_4 q) = @J64_4 q := by
  refine Eq.trans (app_eq rfl rfl) ?_
  kernel_rfl
def K64 (x0 x1 x2 : V) (h : H) [q : Hid (V → H → Prop)] : Prop := @Bnd (V × H) (vBox x1 h) ⟨fun r1 => @Bnd V (vLdA r1.2 2 r1.1) ⟨fun v2 => @wF IP 74 [v2] r1.2 ⟨fun v3 h4 => @Grd v3 true ⟨@Bnd V (vLdA h4 2 r1.1) ⟨fun v5 => @wF IP 113 [v5, x2] h4 ⟨fun v6 h7 => @wF IP 114 [x0, v6] h7 ⟨fun v8 h9 => @Bnd V (bin .eql v8 x2) ⟨fun v10 => @K64_4 v3 v10 h9 q⟩⟩⟩⟩⟩ ⟨@K64_4 v3 undefV h4 q⟩⟩⟩⟩
theorem p64 [q : Hid (V → H → Prop)] : den IP c64 (@Q64 q) = fun e h => @K64 (e 0) (e 1) (e 2) h q := by
  refine Eq.trans (seq_eq (seq_eq rfl (region_eq (app_eq (grp_eq2 9 true rfl (@p64_4 q) rfl) rfl))) rfl) ?_
  kernel_rfl
theorem f64 (a0 a1 a2 : V) (h : H) (Q : V → H → Prop) : @wF IP 64 [a0, a1, a2] h ⟨Q⟩ ↔ @K64 a0 a1 a2 h ⟨Q⟩ := (Fnc_den (ip64) (by kernel_rfl) (by kernel_rfl) h Q).trans (iff_of_eq (congrFun (congrFun (@p64 ⟨Q⟩) _) h))
theorem ip65 : IP 65 = some ir65 := rfl
def Q65 [q : Hid (V → H → Prop)] : X → E → H → Prop := Qr rs65 q.un
def S65_4 [q : Hid (V → H → Prop)] : E → H → Prop := ((Qx (den IP .ret (@Q65 q)) (@Q65 q)) X.normal)
def K65_4 (x9 x17 : V) (h : H) [q : Hid (V → H → Prop)] : Prop := @Bnd V (vPick x9 x17 (.b false)) ⟨fun v1 => @Hid.un (V → H → Prop) q v1 h⟩
def J65_4 [q : Hid (V → H → Prop)] : E → H → Prop := fun e h => @K65_4 (e 9) (e 17) h q
theorem p65_4 [q : Hid (V → H → Prop)] : denOps IP o65_1 (@S65_4 q) = @J65_4 q := by
  refine Eq.trans (app_eq rfl rfl) ?_
  kernel_rfl
def K65 (x0 x1 x2 : V) (h : H) [q : Hid (V → H → Prop)] : Prop := @Bnd (V × H) (vBox x1 h) ⟨fun r1 => @Bnd V (vLdA r1.2 2 r1.1) ⟨fun v2 => @wF IP 74 [v2] r1.2 ⟨fun v3 h4 => @Grd v3 true ⟨@Bnd V (vLdA h4 2 r1.1) ⟨fun v5 => @wF IP 113 [v5, x2] h4 ⟨fun v6 h7 => @wF IP 114 [x0, v6] h7 ⟨fun v8 h9 => @Bnd V (bin .add x2 (.i .u64 1)) ⟨fun v10 => @Bnd V (bin .eql v8 v10) ⟨fun v11 => @K65_4 v3 v11 h9 q⟩⟩⟩⟩⟩⟩ ⟨@K65_4 v3 undefV h4 q⟩⟩⟩⟩
theorem p65 [q : Hid (V → H → Prop)] : den IP c65 (@Q65 q) = fun e h => @K65 (e 0) (e 1) (e 2) h q := by
  refine Eq.trans (seq_eq (seq_eq rfl (region_eq (app_eq (grp_eq2 9 true rfl (@p65_4 q) rfl) rfl))) rfl) ?_
  kernel_rfl
theorem f65 (a0 a1 a2 : V) (h : H) (Q : V → H → Prop) : @wF IP 65 [a0, a1, a2] h ⟨Q⟩ ↔ @K65 a0 a1 a2 h ⟨Q⟩ := (Fnc_den (ip65) (by kernel_rfl) (by kernel_rfl) h Q).trans (iff_of_eq (congrFun (congrFun (@p65 ⟨Q⟩) _) h))
theorem ip66 : IP 66 = some ir66 := rfl
def Q66 [q : Hid (V → H → Prop)] : X → E → H → Prop := Qr rs66 q.un
def K66 (x0 x1 x2 : V) (h : H) [q : Hid (V → H → Prop)] : Prop := @wF IP 115 [x0, x1] h ⟨fun v1 h2 => @Sel v1 ⟨@Bnd V (vNilc x0) ⟨fun v3 => @Bnd V (vFa 0 v3) ⟨fun v4 => @Bnd V (vLd1 h2 v4) ⟨fun v5 => @Bnd V (vIa 1 v5 x1) ⟨fun v6 => @Bnd (V × H) (vStore h2 1 v6 x2) ⟨fun r7 => @Hid.un (V → H → Prop) q (.tup []) r7.2⟩⟩⟩⟩⟩⟩ ⟨@Hid.un (V → H → Prop) q (.tup []) h2⟩⟩
theorem p66 [q : Hid (V → H → Prop)] : den IP c66 (@Q66 q) = fun e h => @K66 (e 0) (e 1) (e 2) h q := by kernel_rfl
theorem f66 (a0 a1 a2 : V) (h : H) (Q : V → H → Prop) : @wF IP 66 [a0, a1, a2] h ⟨Q⟩ ↔ @K66 a0 a1 a2 h ⟨Q⟩ := (Fnc_den (ip66) (by kernel_rfl) (by kernel_rfl) h Q).trans (iff_of_eq (congrFun (congrFun (@p66 ⟨Q⟩) _) h))
theorem ip67 : IP 67 = some ir67 := rfl
def Q67 [q : Hid (V → H → Prop)] : X → E → H → Prop := Qr rs67 q.un
def K67 (x0 x1 : V) (h : H) [q : Hid (V → H → Prop)] : Prop := @Bnd (V × H) (vBox x0 h) ⟨fun r1 => @Bnd V (vLdA r1.2 2 r1.1) ⟨fun v2 => @wF IP 74 [v2] r1.2 ⟨fun v3 h4 => @Bnd V (un .not v3) ⟨fun v5 => @Sel v5 ⟨@Hid.un (V → H → Prop) q (.i .i64 (-1)) h4⟩ ⟨@Bnd V (vLdA h4 2 r1.1) ⟨fun v6 => @wF IP 113 [v6, x1] h4 ⟨fun v7 h8 => @Hid.un (V → H → Prop) q v7 h8⟩⟩⟩⟩⟩⟩⟩
theorem p67 [q : Hid (V → H → Prop)] : den IP c67 (@Q67 q) = fun e h => @K67 (e 0) (e 1) h q := by kernel_rfl
theorem f67 (a0 a1 : V) (h : H) (Q : V → H → Prop) : @wF IP 67 [a0, a1] h ⟨Q⟩ ↔ @K67 a0 a1 h ⟨Q⟩ := (Fnc_den (ip67) (by kernel_rfl) (by kernel_rfl) h Q).trans (iff_of_eq (congrFun (congrFun (@p67 ⟨Q⟩) _) h))
theorem ip68 : IP 68 = some ir68 := rfl
def Q68 [q : Hid (V → H → Prop)] : X → E → H → Prop := Qr rs68 q.un
def S68_10 [q : Hid (V → H → Prop)] : E → H → Prop := ((Qx (den IP .ret (@Q68 q)) (@Q68 q)) X.normal)
def K68_10 (x23 x27 : V) (h : H) [q : Hid (V → H → Prop)] : Prop := @Bnd V (vPick x23 x27 (.b false)) ⟨fun v1 => @Hid.un (V → H → Prop) q v1 h⟩
def J68_10 [q : Hid (V → H → Prop)] : E → H → Prop := fun e h => @K68_10 (e 23) (e 27) h q
theorem p68_10 [q : Hid (V → H → Prop)] : denOps IP o68_1 (@S68_10 q) = @J68_10 q := by
  refine Eq.trans (app_eq rfl rfl) ?_
  kernel_rfl
def S68_11 [q : Hid (V → H → Prop)] : E → H → Prop := ((Qx (den IP .ret (@Q68 q)) (@Q68 q)) X.normal)
def K68_11 (x1 x2 x18 x21 : V) (h : H) [q : Hid (V → H → Prop)] : Prop := @Bnd V (vPick x18 x21 (.b false)) ⟨fun v1 => @Grd v1 true ⟨@Bnd V (vLdA h 2 x2) ⟨fun v2 => @wF IP 65 [x1, v2, (.i .u64 0)] h ⟨fun v3 h4 => @Bnd V (un .not v3) ⟨fun v5 => @K68_10 v1 v5 h4 q⟩⟩⟩⟩ ⟨@K68_10 v1 undefV h q⟩⟩
def J68_11 [q : Hid (V → H → Prop)] : E → H → Prop := fun e h => @K68_11 (e 1) (e 2) (e 18) (e 21) h q
theorem p68_11 [q : Hid (V → H → Prop)] : denOps IP o68_3 (@S68_11 q) = @J68_11 q := by
  refine Eq.trans (app_eq (grp_eq2 23 true rfl (@p68_10 q) rfl) rfl) ?_
  kernel_rfl
def S68_12 [q : Hid (V → H → Prop)] : E → H → Prop := ((Qx (den IP .ret (@Q68 q)) (@Q68 q)) X.normal)
def K68_12 (x1 x2 x13 x16 : V) (h : H) [q : Hid (V → H → Prop)] : Prop := @Bnd V (vPick x13 x16 (.b false)) ⟨fun v1 => @Grd v1 true ⟨@Bnd V (vLdA h 2 x2) ⟨fun v2 => @wF IP 64 [x1, v2, (.i .u64 1)] h ⟨fun v3 h4 => @K68_11 x1 x2 v1 v3 h4 q⟩⟩⟩ ⟨@K68_11 x1 x2 v1 undefV h q⟩⟩
def J68_12 [q : Hid (V → H → Prop)] : E → H → Prop := fun e h => @K68_12 (e 1) (e 2) (e 13) (e 16) h q
theorem p68_12 [q : Hid (V → H → Prop)] : denOps IP o68_5 (@S68_12 q) = @J68_12 q := by
  refine Eq.trans (app_eq (grp_eq2 18 true rfl (@p68_11 q) rfl) rfl) ?_
  kernel_rfl
def S68_13 [q : Hid (V → H → Prop)] : E → H → Prop := ((Qx (den IP .ret (@Q68 q)) (@Q68 q)) X.normal)
def K68_13 (x1 x2 x7 x11 : V) (h : H) [q : Hid (V → H → Prop)] : Prop := @Bnd V (vPick x7 x11 (.b false)) ⟨fun v1 => @Grd v1 true ⟨@Bnd V (vLdA h 2 x2) ⟨fun v2 => @wF IP 64 [x1, v2, (.i .u64 0)] h ⟨fun v3 h4 => @K68_12 x1 x2 v1 v3 h4 q⟩⟩⟩ ⟨@K68_12 x1 x2 v1 undefV h q⟩⟩
def J68_13 [q : Hid (V → H → Prop)] : E → H → Prop := fun e h => @K68_13 (e 1) (e 2) (e 7) (e 11) h q
theorem p68_13 [q : Hid (V → H → Prop)] : denOps IP o68_7 (@S68_13 q) = @J68_13 q := by
  refine Eq.trans (app_eq (grp_eq2 13 true rfl (@p68_12 q) rfl) rfl) ?_
  kernel_rfl
def K68 (h : H) [q : Hid (V → H → Prop)] : Prop := @wF IP 61 [(.i .i64 9)] h ⟨fun v1 h2 => @Bnd V (vBld [(.i .i64 0), (.i .i64 0)] [(0, 1, (.i .i64 0)), (1, 1, (.i .i64 2))]) ⟨fun v3 => @Bnd (V × H) (some (.p (some (H.nx h2, 0)), H.new h2 ⟨false, [(.i .i64 0), (.i .i64 0)]⟩)) ⟨fun r4 => @Bnd (V × H) (vStore r4.2 2 r4.1 v3) ⟨fun r5 => @wF IP 62 [(.i .i64 2)] r5.2 ⟨fun v6 h7 => @Bnd V (bin .eql v6 (.i .i64 9)) ⟨fun v8 => @Grd v8 true ⟨@Bnd V (vLdA h7 2 r4.1) ⟨fun v9 => @wF IP 63 [v1, v9] h7 ⟨fun v10 h11 => @Bnd V (bin .eql v10 (.i .i64 0)) ⟨fun v12 => @K68_13 v1 r4.1 v8 v12 h11 q⟩⟩⟩⟩ ⟨@K68_13 v1 r4.1 v8 undefV h7 q⟩⟩⟩⟩⟩⟩⟩
theorem p68 [q : Hid (V → H → Prop)] : den IP c68 (@Q68 q) = fun e h => @K68 h q := by
  refine Eq.trans (seq_eq (seq_eq (seq_eq (seq_eq rfl (region_eq (app_eq (grp_eq2 7 true rfl (@p68_13 q) rfl) rfl))) rfl) rfl) rfl) ?_
  kernel_rfl
theorem f68 (h : H) (Q : V → H → Prop) : @wF IP 68 [] h ⟨Q⟩ ↔ @K68 h ⟨Q⟩ := (Fnc_den (ip68) (by kernel_rfl) (by kernel_rfl) h Q).trans (iff_of_eq (congrFun (congrFun (@p68 ⟨Q⟩) _) h))
theorem ip69 : IP 69 = some ir69 := rfl
def Q69 [q : Hid (V → H → Prop)] : X → E → H → Prop := Qr rs69 q.un
def Q69_1 [q : Hid (V → H → Prop)] : X → E → H → Prop := (@Q69 q)
def K69_1 (x7 : V) (h : H) [q : Hid (V → H → Prop)] : Prop := @Hid.un (V → H → Prop) q x7 h
def J69_1 [q : Hid (V → H → Prop)] : E → H → Prop := fun e h => @K69_1 (e 7) h q
theorem p69_1 [q : Hid (V → H → Prop)] : den IP c69_1 (@Q69_1 q) = @J69_1 q := by kernel_rfl
def R69_2 [q : Hid (V → H → Prop)] : X → E → H → Prop := (Qb 0 (Qx (@J69_1 q) (@Q69 q)))
def Q69_2 [q : Hid (V → H → Prop)] [g69_2 : Hid (V → V → V → V → H → Prop)] : X → E → H → Prop := Qx (fun e h => g69_2.un (e 0) (e 2) (e 4) (e 7) h) (@R69_2 q)
def Q69_3 [q : Hid (V → H → Prop)] [g69_2 : Hid (V → V → V → V → H → Prop)] : X → E → H → Prop := (@Q69_2 q g69_2)
def K69_3 (x0 x2 x4 x7 : V) (h : H) [q : Hid (V → H → Prop)] [g69_2 : Hid (V → V → V → V → H → Prop)] : Prop := @Bnd V (bin .add x7 (.i .i64 1)) ⟨fun v1 => @Hid.un (V → V → V → V → H → Prop) g69_2 x0 x2 x4 v1 h⟩
def J69_3 [q : Hid (V → H → Prop)] [g69_2 : Hid (V → V → V → V → H → Prop)] : E → H → Prop := fun e h => @K69_3 (e 0) (e 2) (e 4) (e 7) h q g69_2
theorem p69_3 [q : Hid (V → H → Prop)] [g69_2 : Hid (V → V → V → V → H → Prop)] : den IP c69_3 (@Q69_3 q g69_2) = @J69_3 q g69_2 := by kernel_rfl
def Q69_4 [q : Hid (V → H → Prop)] [g69_2 : Hid (V → V → V → V → H → Prop)] : X → E → H → Prop := (Qx (@J69_3 q g69_2) (@Q69_2 q g69_2))
def K69_4 (x0 x2 x4 x7 x20 : V) (h : H) [q : Hid (V → H → Prop)] [g69_2 : Hid (V → V → V → V → H → Prop)] : Prop := @Sel x20 ⟨@K69_3 x0 x2 x4 x7 h q g69_2⟩ ⟨@K69_1 x7 h q⟩
def J69_4 [q : Hid (V → H → Prop)] [g69_2 : Hid (V → V → V → V → H → Prop)] : E → H → Prop := fun e h => @K69_4 (e 0) (e 2) (e 4) (e 7) (e 20) h q g69_2
theorem p69_4 [q : Hid (V → H → Prop)] [g69_2 : Hid (V → V → V → V → H → Prop)] : den IP c69_4 (@Q69_4 q g69_2) = @J69_4 q g69_2 := by kernel_rfl
def S69_8 [q : Hid (V → H → Prop)] [g69_2 : Hid (V → V → V → V → H → Prop)] : E → H → Prop := ((Qx (@J69_4 q g69_2) (Qx (@J69_3 q g69_2) (@Q69_2 q g69_2))) X.normal)
def K69_8 (x0 x2 x4 x7 x12 x19 : V) (h : H) [q : Hid (V → H → Prop)] [g69_2 : Hid (V → V → V → V → H → Prop)] : Prop := @Bnd V (vPick x12 x19 (.b false)) ⟨fun v1 => @K69_4 x0 x2 x4 x7 v1 h q g69_2⟩
def J69_8 [q : Hid (V → H → Prop)] [g69_2 : Hid (V → V → V → V → H → Prop)] : E → H → Prop := fun e h => @K69_8 (e 0) (e 2) (e 4) (e 7) (e 12) (e 19) h q g69_2
theorem p69_8 [q : Hid (V → H → Prop)] [g69_2 : Hid (V → V → V → V → H → Prop)] : denOps IP o69_5 (@S69_8 q g69_2) = @J69_8 q g69_2 := by
  refine Eq.trans (app_eq rfl rfl) ?_
  kernel_rfl
def L69_2 (x0 x2 x4 x7 : V) (h : H) [q : Hid (V → H → Prop)] [g69_2 : Hid (V → V → V → V → H → Prop)] : Prop := @Bnd V (vFa 1 x4) ⟨fun v1 => @Bnd V (vLd1 h v1) ⟨fun v2 => @Bnd V (bin .lss x7 v2) ⟨fun v3 => @Grd v3 true ⟨@Bnd V (vLdA h 2 x4) ⟨fun v4 => @Bnd V (vCvi .u64 x7) ⟨fun v5 => @Bnd V (bin .add x2 v5) ⟨fun v6 => @wF IP 65 [x0, v4, v6] h ⟨fun v7 h8 => @K69_8 x0 x2 x4 x7 v3 v7 h8 q g69_2⟩⟩⟩⟩⟩ ⟨@K69_8 x0 x2 x4 x7 v3 undefV h q g69_2⟩⟩⟩⟩
theorem p69_2 [q : Hid (V → H → Prop)] [g69_2 : Hid (V → V → V → V → H → Prop)] : den IP c69_2 (@Q69_2 q g69_2) = fun e h => @L69_2 (e 0) (e 2) (e 4) (e 7) h q g69_2 := by
  refine Eq.trans (seq_eq (@p69_3 q g69_2) (seq_eq (@p69_4 q g69_2) (region_eq (app_eq (grp_eq2 12 true rfl (@p69_8 q g69_2) rfl) rfl)))) ?_
  kernel_rfl
def W69_2 (x0 x2 x4 x7 : V) (h : H) [q : Hid (V → H → Prop)] : Prop := wFix (fun (g : V × V × V × V × Unit → H → Prop) (x : V × V × V × V × Unit) h => @L69_2 x.1 x.2.1 x.2.2.1 x.2.2.2.1 h q ⟨fun y0 y2 y4 y7 h => g (y0, y2, y4, y7, ()) h⟩) (x0, x2, x4, x7, ()) h
theorem n69_2 [q : Hid (V → H → Prop)] : ∀ g : V × V × V × V × Unit → H → Prop, den IP c69_2 (Qx (fun e h => g ((fun e : E => ((e 0, e 2, e 4, e 7, ()) : V × V × V × V × Unit)) e) h) (@R69_2 q)) = fun e h => (fun (g : V × V × V × V × Unit → H → Prop) (x : V × V × V × V × Unit) h => @L69_2 x.1 x.2.1 x.2.2.1 x.2.2.2.1 h q ⟨fun y0 y2 y4 y7 h => g (y0, y2, y4, y7, ()) h⟩) g ((fun e : E => ((e 0, e 2, e 4, e 7, ()) : V × V × V × V × Unit)) e) h := fun g => @p69_2 q ⟨fun y0 y2 y4 y7 h => g (y0, y2, y4, y7, ()) h⟩
theorem w69_2 [q : Hid (V → H → Prop)] : den IP (.loop c69_2) (@R69_2 q) = fun e h => @W69_2 (e 0) (e 2) (e 4) (e 7) h q := loop_eq (fun e : E => ((e 0, e 2, e 4, e 7, ()) : V × V × V × V × Unit)) (fun (g : V × V × V × V × Unit → H → Prop) (x : V × V × V × V × Unit) h => @L69_2 x.1 x.2.1 x.2.2.1 x.2.2.2.1 h q ⟨fun y0 y2 y4 y7 h => g (y0, y2, y4, y7, ()) h⟩) (@n69_2 q)
theorem m69_2 [q : Hid (V → H → Prop)] : Mono (fun (g : V × V × V × V × Unit → H → Prop) (x : V × V × V × V × Unit) h => @L69_2 x.1 x.2.1 x.2.2.1 x.2.2.2.1 h q ⟨fun y0 y2 y4 y7 h => g (y0, y2, y4, y7, ()) h⟩) := mono_of (p := (fun e : E => ((e 0, e 2, e 4, e 7, ()) : V × V × V × V × Unit))) (fun x : V × V × V × V × Unit => upd (upd (upd (upd (fun _ => undefV) 7 (x.2.2.2.1)) 4 (x.2.2.1)) 2 (x.2.1)) 0 (x.1)) (fun _ => rfl) (@n69_2 q)
theorem W69_2_inv {q : Hid (V → H → Prop)} (I : Nat → V → V → V → V → H → Prop) (step : ∀ n x0 x2 x4 x7 h, I n x0 x2 x4 x7 h → @L69_2 x0 x2 x4 x7 h q ⟨fun y0 y2 y4 y7 h => ∃ m, m < n ∧ I m y0 y2 y4 y7 h⟩) (n : Nat) (x0 x2 x4 x7 : V) (h : H) (hi : I n x0 x2 x4 x7 h) : @W69_2 x0 x2 x4 x7 h q :=
  wFix_inv (@m69_2 q) (fun n x h => I n x.1 x.2.1 x.2.2.1 x.2.2.2.1 h) (fun n x h hi => step n x.1 x.2.1 x.2.2.1 x.2.2.2.1 h hi) n (x0, x2, x4, x7, ()) h hi
theorem W69_2_eq (x0 x2 x4 x7 : V) (h : H) {q : Hid (V → H → Prop)} : @W69_2 x0 x2 x4 x7 h q ↔ @L69_2 x0 x2 x4 x7 h q ⟨fun y0 y2 y4 y7 h => @W69_2 y0 y2 y4 y7 h q⟩ := wFix_unroll (@m69_2 q) (x0, x2, x4, x7, ()) h
def K69 (x0 x1 x2 : V) (h : H) [q : Hid (V → H → Prop)] : Prop := @Bnd (V × H) (vBox x1 h) ⟨fun r1 => @W69_2 x0 x2 r1.1 (.i .i64 0) r1.2 q⟩
theorem p69 [q : Hid (V → H → Prop)] : den IP c69 (@Q69 q) = fun e h => @K69 (e 0) (e 1) (e 2) h q := by
  refine Eq.trans (seq_eq (seq_eq (seq_eq (@p69_1 q) (block_eq (@w69_2 q))) rfl) rfl) ?_
  kernel_rfl
theorem f69 (a0 a1 a2 : V) (h : H) (Q : V → H → Prop) : @wF IP 69 [a0, a1, a2] h ⟨Q⟩ ↔ @K69 a0 a1 a2 h ⟨Q⟩ := (Fnc_den (ip69) (by kernel_rfl) (by kernel_rfl) h Q).trans (iff_of_eq (congrFun (congrFun (@p69 ⟨Q⟩) _) h))
theorem ip74 : IP 74 = some ir74 := rfl
def Q74 [q : Hid (V → H → Prop)] : X → E → H → Prop := Qr rs74 q.un
def S74_10 [q : Hid (V → H → Prop)] : List (E × H) → E → H → Prop := (fun st e h => chkAll o74_9 ((e, h) :: st) 27 [(20, 22)] ((Qx (den IP .ret (@Q74 q)) (@Q74 q)) X.normal e h))
def K74_10 (k20_24 : V) (k20_25 : V) (k22_h : H) (k23_h : H) (x24 x30 : V) (h : H) [q : Hid (V → H → Prop)] : Prop := @Bnd V (vPick x24 x30 (.b false)) ⟨fun v1 => @Chk (stdyG k20_24 true (stdy false 1 k20_25 k22_h k23_h)) ⟨@Hid.un (V → H → Prop) q v1 h⟩⟩
def J74_10 [q : Hid (V → H → Prop)] : List (E × H) → E → H → Prop := fun st e h => @K74_10 ((List.getD st 4 eh0).1 24) ((List.getD st 4 eh0).1 25) (List.getD st 2 eh0).2 (List.getD st 1 eh0).2 (e 24) (e 30) h q
theorem p74_10 [q : Hid (V → H → Prop)] : denT2 IP o74_1 (@S74_10 q) = @J74_10 q := by
  refine Eq.trans (tapp_eq rfl rfl) ?_
  kernel_rfl
def S74_11 [q : Hid (V → H → Prop)] : List (E × H) → E → H → Prop := (fun st e h => chkAll o74_9 ((e, h) :: st) 27 [(20, 22)] ((Qx (den IP .ret (@Q74 q)) (@Q74 q)) X.normal e h))
def K74_11 (x1 x3 x19 x22 : V) (h : H) [q : Hid (V → H → Prop)] : Prop := @Bnd V (vPick x19 x22 (.b false)) ⟨fun v1 => @Grd v1 true ⟨@Bnd V (vFa 0 x1) ⟨fun v2 => @Bnd V (vLd1 h v2) ⟨fun v3 => @wF IP 62 [x3] h ⟨fun v4 h5 => @Bnd V (bin .sub (.i .i64 16384) v4) ⟨fun v6 => @Bnd V (bin .leq v3 v6) ⟨fun v7 => @K74_10 v1 v2 h h5 v1 v7 h5 q⟩⟩⟩⟩⟩⟩ ⟨@K74_10 v1 undefV h h v1 undefV h q⟩⟩
def J74_11 [q : Hid (V → H → Prop)] : List (E × H) → E → H → Prop := fun st e h => @K74_11 (e 1) (e 3) (e 19) (e 22) h q
theorem p74_11 [q : Hid (V → H → Prop)] : denT2 IP o74_3 (@S74_11 q) = @J74_11 q := by
  refine Eq.trans (tapp_eq (tgrp_eq2 24 true rfl (@p74_10 q) rfl) rfl) ?_
  kernel_rfl
def S74_12 [q : Hid (V → H → Prop)] : List (E × H) → E → H → Prop := (fun st e h => chkAll o74_9 ((e, h) :: st) 27 [(20, 22)] ((Qx (den IP .ret (@Q74 q)) (@Q74 q)) X.normal e h))
def K74_12 (x1 x3 x12 x17 : V) (h : H) [q : Hid (V → H → Prop)] : Prop := @Bnd V (vPick x12 x17 (.b false)) ⟨fun v1 => @Grd v1 true ⟨@Bnd V (vFa 0 x1) ⟨fun v2 => @Bnd V (vLd1 h v2) ⟨fun v3 => @Bnd V (bin .geq v3 (.i .i64 0)) ⟨fun v4 => @K74_11 x1 x3 v1 v4 h q⟩⟩⟩⟩ ⟨@K74_11 x1 x3 v1 undefV h q⟩⟩
def J74_12 [q : Hid (V → H → Prop)] : List (E × H) → E → H → Prop := fun st e h => @K74_12 (e 1) (e 3) (e 12) (e 17) h q
theorem p74_12 [q : Hid (V → H → Prop)] : denT2 IP o74_5 (@S74_12 q) = @J74_12 q := by
  refine Eq.trans (tapp_eq (tgrp_eq2 19 true rfl (@p74_11 q) rfl) rfl) ?_
  kernel_rfl
def S74_13 [q : Hid (V → H → Prop)] : List (E × H) → E → H → Prop := (fun st e h => chkAll o74_9 ((e, h) :: st) 27 [(20, 22)] ((Qx (den IP .ret (@Q74 q)) (@Q74 q)) X.normal e h))
def K74_13 (x1 x3 x8 x10 : V) (h : H) [q : Hid (V → H → Prop)] : Prop := @Bnd V (vPick x8 x10 (.b false)) ⟨fun v1 => @Grd v1 true ⟨@Bnd V (bin .sub x3 (.i .i64 1)) ⟨fun v2 => @Bnd V (bin .and x3 v2) ⟨fun v3 => @Bnd V (bin .eql v3 (.i .i64 0)) ⟨fun v4 => @K74_12 x1 x3 v1 v4 h q⟩⟩⟩⟩ ⟨@K74_12 x1 x3 v1 undefV h q⟩⟩
def J74_13 [q : Hid (V → H → Prop)] : List (E × H) → E → H → Prop := fun st e h => @K74_13 (e 1) (e 3) (e 8) (e 10) h q
theorem p74_13 [q : Hid (V → H → Prop)] : denT2 IP o74_7 (@S74_13 q) = @J74_13 q := by
  refine Eq.trans (tapp_eq (tgrp_eq2 12 true rfl (@p74_12 q) rfl) rfl) ?_
  kernel_rfl
def K74 (x0 : V) (h : H) [q : Hid (V → H → Prop)] : Prop := @Bnd (V × H) (vBox x0 h) ⟨fun r1 => @Bnd V (vFa 1 r1.1) ⟨fun v2 => @Bnd V (vLd1 r1.2 v2) ⟨fun v3 => @Bnd V (bin .geq v3 (.i .i64 2)) ⟨fun v4 => @Grd v4 true ⟨@Bnd V (bin .leq v3 (.i .i64 64)) ⟨fun v5 => @K74_13 r1.1 v3 v4 v5 r1.2 q⟩⟩ ⟨@K74_13 r1.1 v3 v4 undefV r1.2 q⟩⟩⟩⟩⟩
theorem p74 [q : Hid (V → H → Prop)] : den IP c74 (@Q74 q) = fun e h => @K74 (e 0) h q := by
  refine Eq.trans (seq_eq (seq_eq (seq_eq rfl (draw_eq (tapp_eq (tgrp_eq2 8 true rfl (@p74_13 q) rfl) rfl))) rfl) rfl) ?_
  kernel_rfl
theorem f74 (a0 : V) (h : H) (Q : V → H → Prop) : @wF IP 74 [a0] h ⟨Q⟩ ↔ @K74 a0 h ⟨Q⟩ := (Fnc_den (ip74) (by kernel_rfl) (by kernel_rfl) h Q).trans (iff_of_eq (congrFun (congrFun (@p74 ⟨Q⟩) _) h))
theorem ip112 : IP 112 = some ir112 := rfl
def Q112 [q : Hid (V → H → Prop)] : X → E → H → Prop := Qr rs112 q.un
def K112 (x0 : V) (h : H) [q : Hid (V → H → Prop)] : Prop := @Bnd V (vEqz false .p x0 (.p none)) ⟨fun v1 => @Sel v1 ⟨@Hid.un (V → H → Prop) q (.i .i64 0) h⟩ ⟨@Bnd V (vNilc x0) ⟨fun v2 => @Bnd V (vFa 0 v2) ⟨fun v3 => @Bnd V (vLd1 h v3) ⟨fun v4 => @Bnd V (vLens v4) ⟨fun v5 => @Hid.un (V → H → Prop) q v5 h⟩⟩⟩⟩⟩⟩
theorem p112 [q : Hid (V → H → Prop)] : den IP c112 (@Q112 q) = fun e h => @K112 (e 0) h q := by kernel_rfl
theorem f112 (a0 : V) (h : H) (Q : V → H → Prop) : @wF IP 112 [a0] h ⟨Q⟩ ↔ @K112 a0 h ⟨Q⟩ := (Fnc_den (ip112) (by kernel_rfl) (by kernel_rfl) h Q).trans (iff_of_eq (congrFun (congrFun (@p112 ⟨Q⟩) _) h))
theorem ip113 : IP 113 = some ir113 := rfl
def Q113 [q : Hid (V → H → Prop)] : X → E → H → Prop := Qr rs113 q.un
def K113 (x0 x1 : V) (h : H) [q : Hid (V → H → Prop)] : Prop := @Bnd (V × H) (vBox x0 h) ⟨fun r1 => @Bnd V (vFa 0 r1.1) ⟨fun v2 => @Bnd V (vLd1 r1.2 v2) ⟨fun v3 => @Bnd V (bin .add v3 (.i .i64 1)) ⟨fun v4 => @Bnd V (vFa 1 r1.1) ⟨fun v5 => @Bnd V (vLd1 r1.2 v5) ⟨fun v6 => @Bnd V (vCvi .u64 v6) ⟨fun v7 => @Bnd V (bin .rem x1 v7) ⟨fun v8 => @Bnd V (vCvi .i64 v8) ⟨fun v9 => @Bnd V (bin .mul v9 (.i .i64 4)) ⟨fun v10 => @Bnd V (bin .add v4 v10) ⟨fun v11 => @Hid.un (V → H → Prop) q v11 r1.2⟩⟩⟩⟩⟩⟩⟩⟩⟩⟩⟩
theorem p113 [q : Hid (V → H → Prop)] : den IP c113 (@Q113 q) = fun e h => @K113 (e 0) (e 1) h q := by kernel_rfl
theorem f113 (a0 a1 : V) (h : H) (Q : V → H → Prop) : @wF IP 113 [a0, a1] h ⟨Q⟩ ↔ @K113 a0 a1 h ⟨Q⟩ := (Fnc_den (ip113) (by kernel_rfl) (by kernel_rfl) h Q).trans (iff_of_eq (congrFun (congrFun (@p113 ⟨Q⟩) _) h))
theorem ip114 : IP 114 = some ir114 := rfl
def Q114 [q : Hid (V → H → Prop)] : X → E → H → Prop := Qr rs114 q.un
def Q114_1 [q : Hid (V → H → Prop)] : X → E → H → Prop := (@Q114 q)
def K114_1 (x0 x1 : V) (h : H) [q : Hid (V → H → Prop)] : Prop := @Bnd V (vNilc x0) ⟨fun v1 => @Bnd V (vFa 0 v1) ⟨fun v2 => @Bnd V (vLd1 h v2) ⟨fun v3 => @Bnd V (vIa 1 v3 x1) ⟨fun v4 => @Bnd V (vLd1 h v4) ⟨fun v5 => @Hid.un (V → H → Prop) q v5 h⟩⟩⟩⟩⟩
def J114_1 [q : Hid (V → H → Prop)] : E → H → Prop := fun e h => @K114_1 (e 0) (e 1) h q
theorem p114_1 [q : Hid (V → H → Prop)] : den IP c114_1 (@Q114_1 q) = @J114_1 q := by kernel_rfl
def Q114_2 [q : Hid (V → H → Prop)] : X → E → H → Prop := (Qx (@J114_1 q) (@Q114 q))
def K114_2 (x0 x1 x12 : V) (h : H) [q : Hid (V → H → Prop)] : Prop := @Sel x12 ⟨@Hid.un (V → H → Prop) q (.i .u64 0) h⟩ ⟨@K114_1 x0 x1 h q⟩
def J114_2 [q : Hid (V → H → Prop)] : E → H → Prop := fun e h => @K114_2 (e 0) (e 1) (e 12) h q
theorem p114_2 [q : Hid (V → H → Prop)] : den IP c114_2 (@Q114_2 q) = @J114_2 q := by kernel_rfl
def S114_6 [q : Hid (V → H → Prop)] : E → H → Prop := ((Qx (@J114_2 q) (Qx (@J114_1 q) (@Q114 q))) X.normal)
def K114_6 (x0 x1 x7 x11 : V) (h : H) [q : Hid (V → H → Prop)] : Prop := @Bnd V (vPick x7 (.b true) x11) ⟨fun v1 => @K114_2 x0 x1 v1 h q⟩
def J114_6 [q : Hid (V → H → Prop)] : E → H → Prop := fun e h => @K114_6 (e 0) (e 1) (e 7) (e 11) h q
theorem p114_6 [q : Hid (V → H → Prop)] : denOps IP o114_3 (@S114_6 q) = @J114_6 q := by
  refine Eq.trans (app_eq rfl rfl) ?_
  kernel_rfl
def K114 (x0 x1 : V) (h : H) [q : Hid (V → H → Prop)] : Prop := @Bnd V (bin .lss x1 (.i .i64 0)) ⟨fun v1 => @Grd v1 false ⟨@wF IP 112 [x0] h ⟨fun v2 h3 => @Bnd V (bin .geq x1 v2) ⟨fun v4 => @K114_6 x0 x1 v1 v4 h3 q⟩⟩⟩ ⟨@K114_6 x0 x1 v1 undefV h q⟩⟩
theorem p114 [q : Hid (V → H → Prop)] : den IP c114 (@Q114 q) = fun e h => @K114 (e 0) (e 1) h q := by
  refine Eq.trans (seq_eq (seq_eq (@p114_1 q) (seq_eq (@p114_2 q) (region_eq (app_eq (grp_eq2 7 false rfl (@p114_6 q) rfl) rfl)))) rfl) ?_
  kernel_rfl
theorem f114 (a0 a1 : V) (h : H) (Q : V → H → Prop) : @wF IP 114 [a0, a1] h ⟨Q⟩ ↔ @K114 a0 a1 h ⟨Q⟩ := (Fnc_den (ip114) (by kernel_rfl) (by kernel_rfl) h Q).trans (iff_of_eq (congrFun (congrFun (@p114 ⟨Q⟩) _) h))
theorem ip115 : IP 115 = some ir115 := rfl
def Q115 [q : Hid (V → H → Prop)] : X → E → H → Prop := Qr rs115 q.un
def Q115_1 [q : Hid (V → H → Prop)] : X → E → H → Prop := (@Q115 q)
def Q115_2 [q : Hid (V → H → Prop)] : X → E → H → Prop := (@Q115_1 q)
def K115_2 (h : H) [q : Hid (V → H → Prop)] : Prop := @Hid.un (V → H → Prop) q (.b true) h
def J115_2 [q : Hid (V → H → Prop)] : E → H → Prop := fun e h => @K115_2 h q
theorem p115_2 [q : Hid (V → H → Prop)] : den IP c115_2 (@Q115_2 q) = @J115_2 q := by kernel_rfl
def K115_1 (x0 x1 : V) (h : H) [q : Hid (V → H → Prop)] : Prop := @Bnd V (vNilc x0) ⟨fun v1 => @Bnd V (vFa 1 v1) ⟨fun v2 => @Bnd V (vLd1 h v2) ⟨fun v3 => @wF IP 129 [v3, x1] h ⟨fun v4 h5 => @Bnd V (un .not v4) ⟨fun v6 => @Sel v6 ⟨@Bnd V (vNilc x0) ⟨fun v7 => @Bnd V (vFa 1 v7) ⟨fun v8 => @Bnd V (vLd1 h5 v8) ⟨fun v9 => @Bnd (V × H) (vNewSl 1 [(.i .i64 0)] [(0, 1, x1)] h5) ⟨fun r10 => @Bnd (V × H) (vApp 1 8 v9 r10.1 r10.2) ⟨fun r11 => @Bnd V (vNilc x0) ⟨fun v12 => @Bnd V (vFa 1 v12) ⟨fun v13 => @Bnd (V × H) (vStore r11.2 1 v13 r11.1) ⟨fun r14 => @K115_2 r14.2 q⟩⟩⟩⟩⟩⟩⟩⟩⟩ ⟨@K115_2 h5 q⟩⟩⟩⟩⟩⟩
def J115_1 [q : Hid (V → H → Prop)] : E → H → Prop := fun e h => @K115_1 (e 0) (e 1) h q
theorem p115_1 [q : Hid (V → H → Prop)] : den IP c115_1 (@Q115_1 q) = @J115_1 q := by
  refine Eq.trans (seq_eq (@p115_2 q) rfl) ?_
  kernel_rfl
def Q115_3 [q : Hid (V → H → Prop)] : X → E → H → Prop := (Qx (@J115_1 q) (@Q115 q))
def K115_3 (x0 x1 x17 : V) (h : H) [q : Hid (V → H → Prop)] : Prop := @Sel x17 ⟨@Bnd V (vNilc x0) ⟨fun v1 => @Bnd V (vFa 2 v1) ⟨fun v2 => @Bnd V (vLd1 h v2) ⟨fun v3 => @Bnd V (bin .add v3 (.i .i64 1)) ⟨fun v4 => @Bnd V (vNilc x0) ⟨fun v5 => @Bnd V (vFa 2 v5) ⟨fun v6 => @Bnd (V × H) (vStore h 1 v6 v4) ⟨fun r7 => @Hid.un (V → H → Prop) q (.b false) r7.2⟩⟩⟩⟩⟩⟩⟩⟩ ⟨@K115_1 x0 x1 h q⟩
def J115_3 [q : Hid (V → H → Prop)] : E → H → Prop := fun e h => @K115_3 (e 0) (e 1) (e 17) h q
theorem p115_3 [q : Hid (V → H → Prop)] : den IP c115_3 (@Q115_3 q) = @J115_3 q := by kernel_rfl
def S115_7 [q : Hid (V → H → Prop)] : E → H → Prop := ((Qx (@J115_3 q) (Qx (@J115_1 q) (@Q115 q))) X.normal)
def K115_7 (x0 x1 x9 x16 : V) (h : H) [q : Hid (V → H → Prop)] : Prop := @Bnd V (vPick x9 (.b true) x16) ⟨fun v1 => @K115_3 x0 x1 v1 h q⟩
def J115_7 [q : Hid (V → H → Prop)] : E → H → Prop := fun e h => @K115_7 (e 0) (e 1) (e 9) (e 16) h q
theorem p115_7 [q : Hid (V → H → Prop)] : denOps IP o115_4 (@S115_7 q) = @J115_7 q := by
  refine Eq.trans (app_eq rfl rfl) ?_
  kernel_rfl
def K115 (x0 x1 : V) (h : H) [q : Hid (V → H → Prop)] : Prop := @Bnd V (vEqz false .p x0 (.p none)) ⟨fun v1 => @Sel v1 ⟨@Hid.un (V → H → Prop) q (.b false) h⟩ ⟨@Bnd V (bin .lss x1 (.i .i64 0)) ⟨fun v2 => @Grd v2 false ⟨@Bnd V (vNilc x0) ⟨fun v3 => @Bnd V (vFa 0 v3) ⟨fun v4 => @Bnd V (vLd1 h v4) ⟨fun v5 => @Bnd V (vLens v5) ⟨fun v6 => @Bnd V (bin .geq x1 v6) ⟨fun v7 => @K115_7 x0 x1 v2 v7 h q⟩⟩⟩⟩⟩⟩ ⟨@K115_7 x0 x1 v2 undefV h q⟩⟩⟩⟩
theorem p115 [q : Hid (V → H → Prop)] : den IP c115 (@Q115 q) = fun e h => @K115 (e 0) (e 1) h q := by
  refine Eq.trans (seq_eq (seq_eq (seq_eq (@p115_1 q) (seq_eq (@p115_3 q) (region_eq (app_eq (grp_eq2 9 false rfl (@p115_7 q) rfl) rfl)))) rfl) rfl) ?_
  kernel_rfl
theorem f115 (a0 a1 : V) (h : H) (Q : V → H → Prop) : @wF IP 115 [a0, a1] h ⟨Q⟩ ↔ @K115 a0 a1 h ⟨Q⟩ := (Fnc_den (ip115) (by kernel_rfl) (by kernel_rfl) h Q).trans (iff_of_eq (congrFun (congrFun (@p115 ⟨Q⟩) _) h))
theorem ip129 : IP 129 = some ir129 := rfl
def Q129 [q : Hid (V → H → Prop)] : X → E → H → Prop := Qr rs129 q.un
def K129 (x0 x1 : V) (h : H) [q : Hid (V → H → Prop)] : Prop := @wF IP 139 [x0, x1] h ⟨fun v1 h2 => @Bnd V (bin .geq v1 (.i .i64 0)) ⟨fun v3 => @Hid.un (V → H → Prop) q v3 h2⟩⟩
theorem p129 [q : Hid (V → H → Prop)] : den IP c129 (@Q129 q) = fun e h => @K129 (e 0) (e 1) h q := by kernel_rfl
theorem f129 (a0 a1 : V) (h : H) (Q : V → H → Prop) : @wF IP 129 [a0, a1] h ⟨Q⟩ ↔ @K129 a0 a1 h ⟨Q⟩ := (Fnc_den (ip129) (by kernel_rfl) (by kernel_rfl) h Q).trans (iff_of_eq (congrFun (congrFun (@p129 ⟨Q⟩) _) h))
theorem ip139 : IP 139 = some ir139 := rfl
def Q139 [q : Hid (V → H → Prop)] : X → E → H → Prop := Qr rs139 q.un
def Q139_1 [q : Hid (V → H → Prop)] : X → E → H → Prop := (@Q139 q)
def K139_1 (h : H) [q : Hid (V → H → Prop)] : Prop := @Hid.un (V → H → Prop) q (.i .i64 (-1)) h
def J139_1 [q : Hid (V → H → Prop)] : E → H → Prop := fun e h => @K139_1 h q
theorem p139_1 [q : Hid (V → H → Prop)] : den IP c139_1 (@Q139_1 q) = @J139_1 q := by kernel_rfl
def R139_2 [q : Hid (V → H → Prop)] : X → E → H → Prop := (Qb 0 (Qx (@J139_1 q) (@Q139 q)))
def Q139_2 [q : Hid (V → H → Prop)] [g139_2 : Hid (V → V → V → V → H → Prop)] : X → E → H → Prop := Qx (fun e h => g139_2.un (e 0) (e 1) (e 7) (e 8) h) (@R139_2 q)
def L139_2 (x0 x1 x7 x8 : V) (h : H) [q : Hid (V → H → Prop)] [g139_2 : Hid (V → V → V → V → H → Prop)] : Prop := @Bnd V (bin .lss x8 x7) ⟨fun v1 => @Sel v1 ⟨@Bnd V (vIa 1 x0 x8) ⟨fun v2 => @Bnd V (vLd1 h v2) ⟨fun v3 => @Bnd V (bin .eql x1 v3) ⟨fun v4 => @Sel v4 ⟨@Hid.un (V → H → Prop) q x8 h⟩ ⟨@Bnd V (bin .add x8 (.i .i64 1)) ⟨fun v5 => @Hid.un (V → V → V → V → H → Prop) g139_2 x0 x1 x7 v5 h⟩⟩⟩⟩⟩⟩ ⟨@K139_1 h q⟩⟩
theorem p139_2 [q : Hid (V → H → Prop)] [g139_2 : Hid (V → V → V → V → H → Prop)] : den IP c139_2 (@Q139_2 q g139_2) = fun e h => @L139_2 (e 0) (e 1) (e 7) (e 8) h q g139_2 := by kernel_rfl
def W139_2 (x0 x1 x7 x8 : V) (h : H) [q : Hid (V → H → Prop)] : Prop := wFix (fun (g : V × V × V × V × Unit → H → Prop) (x : V × V × V × V × Unit) h => @L139_2 x.1 x.2.1 x.2.2.1 x.2.2.2.1 h q ⟨fun y0 y1 y7 y8 h => g (y0, y1, y7, y8, ()) h⟩) (x0, x1, x7, x8, ()) h
theorem n139_2 [q : Hid (V → H → Prop)] : ∀ g : V × V × V × V × Unit → H → Prop, den IP c139_2 (Qx (fun e h => g ((fun e : E => ((e 0, e 1, e 7, e 8, ()) : V × V × V × V × Unit)) e) h) (@R139_2 q)) = fun e h => (fun (g : V × V × V × V × Unit → H → Prop) (x : V × V × V × V × Unit) h => @L139_2 x.1 x.2.1 x.2.2.1 x.2.2.2.1 h q ⟨fun y0 y1 y7 y8 h => g (y0, y1, y7, y8, ()) h⟩) g ((fun e : E => ((e 0, e 1, e 7, e 8, ()) : V × V × V × V × Unit)) e) h := fun g => @p139_2 q ⟨fun y0 y1 y7 y8 h => g (y0, y1, y7, y8, ()) h⟩
theorem w139_2 [q : Hid (V → H → Prop)] : den IP (.loop c139_2) (@R139_2 q) = fun e h => @W139_2 (e 0) (e 1) (e 7) (e 8) h q := loop_eq (fun e : E => ((e 0, e 1, e 7, e 8, ()) : V × V × V × V × Unit)) (fun (g : V × V × V × V × Unit → H → Prop) (x : V × V × V × V × Unit) h => @L139_2 x.1 x.2.1 x.2.2.1 x.2.2.2.1 h q ⟨fun y0 y1 y7 y8 h => g (y0, y1, y7, y8, ()) h⟩) (@n139_2 q)
theorem m139_2 [q : Hid (V → H → Prop)] : Mono (fun (g : V × V × V × V × Unit → H → Prop) (x : V × V × V × V × Unit) h => @L139_2 x.1 x.2.1 x.2.2.1 x.2.2.2.1 h q ⟨fun y0 y1 y7 y8 h => g (y0, y1, y7, y8, ()) h⟩) := mono_of (p := (fun e : E => ((e 0, e 1, e 7, e 8, ()) : V × V × V × V × Unit))) (fun x : V × V × V × V × Unit => upd (upd (upd (upd (fun _ => undefV) 8 (x.2.2.2.1)) 7 (x.2.2.1)) 1 (x.2.1)) 0 (x.1)) (fun _ => rfl) (@n139_2 q)
theorem W139_2_inv {q : Hid (V → H → Prop)} (I : Nat → V → V → V → V → H → Prop) (step : ∀ n x0 x1 x7 x8 h, I n x0 x1 x7 x8 h → @L139_2 x0 x1 x7 x8 h q ⟨fun y0 y1 y7 y8 h => ∃ m, m < n ∧ I m y0 y1 y7 y8 h⟩) (n : Nat) (x0 x1 x7 x8 : V) (h : H) (hi : I n x0 x1 x7 x8 h) : @W139_2 x0 x1 x7 x8 h q :=
  wFix_inv (@m139_2 q) (fun n x h => I n x.1 x.2.1 x.2.2.1 x.2.2.2.1 h) (fun n x h hi => step n x.1 x.2.1 x.2.2.1 x.2.2.2.1 h hi) n (x0, x1, x7, x8, ()) h hi
theorem W139_2_eq (x0 x1 x7 x8 : V) (h : H) {q : Hid (V → H → Prop)} : @W139_2 x0 x1 x7 x8 h q ↔ @L139_2 x0 x1 x7 x8 h q ⟨fun y0 y1 y7 y8 h => @W139_2 y0 y1 y7 y8 h q⟩ := wFix_unroll (@m139_2 q) (x0, x1, x7, x8, ()) h
def K139 (x0 x1 : V) (h : H) [q : Hid (V → H → Prop)] : Prop := @Bnd V (vLens x0) ⟨fun v1 => @W139_2 x0 x1 v1 (.i .i64 0) h q⟩
theorem p139 [q : Hid (V → H → Prop)] : den IP c139 (@Q139 q) = fun e h => @K139 (e 0) (e 1) h q := by
  refine Eq.trans (seq_eq (seq_eq (@p139_1 q) (seq_eq (block_eq (@w139_2 q)) rfl)) rfl) ?_
  kernel_rfl
theorem f139 (a0 a1 : V) (h : H) (Q : V → H → Prop) : @wF IP 139 [a0, a1] h ⟨Q⟩ ↔ @K139 a0 a1 h ⟨Q⟩ := (Fnc_den (ip139) (by kernel_rfl) (by kernel_rfl) h Q).trans (iff_of_eq (congrFun (congrFun (@p139 ⟨Q⟩) _) h))
end Go.Proofs.Ytgjhicaiibomeaa.IrRingInit
