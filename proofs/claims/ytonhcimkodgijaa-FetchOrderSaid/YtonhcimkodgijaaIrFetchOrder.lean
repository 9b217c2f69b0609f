/-
  The abstract machine's text of the functions that FetchOrder reaches, and: it is the loaded program's. Then the functions without temporaries.
-/
import Derived.Test.YtonhcimkodgijaaProg
import Derived.Test.YtonhcimkodgijaaMxT
import Derived.Test.YtonhcimkodgijaaMxU
namespace Go.Proofs.Ytonhcimkodgijaa.IrFetchOrder
open Go Mx
set_option maxRecDepth 100000
set_option linter.unusedVariables false
/-! cableway/cablewaylaw08.FetchOrder -/
def rs11 : List RV := [(.t 6)]
def c11_1 : IC := (.seq (.region [⟨some 152, .ef (.call 58 []), none⟩, ⟨some 6, .pu (.mov (.t 152)), none⟩]) .ret)
def c11_4 : IC := (.region [⟨some 44, .pu (.mov (.t 13)), none⟩, ⟨some 45, .pu (.bin .add (.t 44) (.c (.i .i64 1))), none⟩, ⟨some 13, .pu (.mov (.t 45)), none⟩])
def c11_7 : IC := (.seq (.seq (.draw [⟨some 135, .ld true 8 (.t 18), none⟩, ⟨some 136, .ef (.call 56 [(.t 135)]), none⟩, ⟨some 137, .pu (.mov (.t 10)), none⟩, ⟨some 138, .pu (.ia 3 (.t 137) (.c (.i .i64 0))), none⟩, ⟨some 139, .ld true 3 (.t 138), none⟩, ⟨some 140, .pu (.eqa true [.i, .i, .i] (.t 136) (.t 139)), none⟩] [(4, 1)]) (.cond (.t 140) (.seq (.region [⟨some 6, .pu (.mov (.c (.b false))), none⟩]) .ret) .skip)) (.seq (.region [⟨some 141, .pu (.mov (.t 10)), none⟩, ⟨some 142, .pu (.sls 3 (.t 141) (some (.c (.i .i64 1))) none none), none⟩, ⟨some 143, .pu (.mov (.t 12)), none⟩, ⟨some 144, .pu (.bin .add (.t 143) (.c (.i .u64 1))), none⟩, ⟨some 10, .pu (.mov (.t 142)), none⟩, ⟨some 12, .pu (.mov (.t 144)), none⟩]) (.seq (.region [⟨some 145, .pu (.mov (.t 9)), none⟩, ⟨some 146, .ld true 2 (.t 8), none⟩, ⟨some 147, .pu (.mov (.t 12)), none⟩, ⟨some 148, .ef (.call 62 [(.t 145), (.t 146), (.t 147)]), none⟩, ⟨some 149, .pu (.mov (.t 10)), none⟩, ⟨some 150, .pu (.lens (.t 149)), none⟩, ⟨some 151, .pu (.bin .neq (.t 148) (.t 150)), none⟩]) (.cond (.t 151) (.seq (.region [⟨some 6, .pu (.mov (.c (.b false))), none⟩]) .ret) .skip))))
def c11_8 : IC := (.cond (.t 134) (.seq (.region [⟨some 6, .pu (.mov (.c (.b false))), none⟩]) .ret) .skip)
def o11_9 : List IOp := [⟨some 134, .pu (.pick (.t 129) (.c (.b true)) (.t 133)), none⟩] ++ []
def o11_10 : List IOp := [⟨some 130, .ld true 8 (.t 18), some (129, false)⟩, ⟨some 131, .ef (.call 56 [(.t 130)]), some (129, false)⟩, ⟨some 132, .pu (.bld [(.i .u64 0), (.i .u64 0), (.i .u64 0)] []), some (129, false)⟩, ⟨some 133, .pu (.eqa true [.i, .i, .i] (.t 131) (.t 132)), some (129, false)⟩] ++ o11_9
def o11_11 : List IOp := [⟨some 127, .pu (.mov (.t 20)), none⟩, ⟨some 128, .pu (.bin .neq (.t 127) (.c (.i .i64 4))), none⟩, ⟨some 129, .pu (.mov (.t 128)), none⟩] ++ o11_10
def c11_6 : IC := (.seq (.seq (.region [⟨some 125, .pu (.mov (.t 20)), none⟩, ⟨some 126, .pu (.bin .neq (.t 125) (.c (.i .i64 0))), none⟩]) (.cond (.t 126) (.seq (.seq (.region o11_11) c11_8) (.exit 1)) .skip)) c11_7)
def c11_13 : IC := (.cond (.t 124) (.seq (.region [⟨some 6, .pu (.mov (.c (.b false))), none⟩]) .ret) .skip)
def o11_14 : List IOp := [⟨some 124, .pu (.pick (.t 117) (.c (.b true)) (.t 123)), none⟩] ++ []
def o11_15 : List IOp := [⟨some 118, .ld true 8 (.t 18), some (117, false)⟩, ⟨some 119, .ef (.call 61 [(.t 118)]), some (117, false)⟩, ⟨some 120, .pu (.mov (.t 10)), some (117, false)⟩, ⟨some 121, .pu (.lens (.t 120)), some (117, false)⟩, ⟨some 122, .pu (.bin .gtr (.t 121) (.c (.i .i64 0))), some (117, false)⟩, ⟨some 123, .pu (.eqz true .b (.t 119) (.t 122)), some (117, false)⟩] ++ o11_14
def o11_16 : List IOp := [⟨some 116, .pu (.pick (.t 109) (.c (.b true)) (.t 115)), none⟩, ⟨some 117, .pu (.mov (.t 116)), none⟩] ++ o11_15
def o11_17 : List IOp := [⟨some 110, .pu (.mov (.t 20)), some (109, false)⟩, ⟨some 111, .pu (.bin .eql (.t 110) (.c (.i .i64 0))), some (109, false)⟩, ⟨some 112, .pu (.mov (.t 10)), some (109, false)⟩, ⟨some 113, .pu (.lens (.t 112)), some (109, false)⟩, ⟨some 114, .pu (.bin .gtr (.t 113) (.c (.i .i64 0))), some (109, false)⟩, ⟨some 115, .pu (.eqz true .b (.t 111) (.t 114)), some (109, false)⟩] ++ o11_16
def o11_18 : List IOp := [⟨some 108, .pu (.pick (.t 105) (.c (.b true)) (.t 107)), none⟩, ⟨some 109, .pu (.mov (.t 108)), none⟩] ++ o11_17
def o11_19 : List IOp := [⟨some 106, .pu (.mov (.t 19)), some (105, false)⟩, ⟨some 107, .pu (.bin .lss (.t 106) (.c (.i .i64 1))), some (105, false)⟩] ++ o11_18
def o11_20 : List IOp := [⟨some 103, .pu (.mov (.t 21)), none⟩, ⟨some 104, .pu (.un .not (.t 103)), none⟩, ⟨some 105, .pu (.mov (.t 104)), none⟩] ++ o11_19
def c11_5 : IC := (.seq (.region [⟨some 91, .pu (.mov (.t 9)), none⟩, ⟨some 92, .ld true 2 (.t 8), none⟩, ⟨some 93, .pu (.mov (.t 12)), none⟩, ⟨some 94, .ef (.call 49 [(.t 92), (.t 93)]), none⟩, ⟨some 95, .ef (.call 60 [(.t 91), (.t 94)]), none⟩, ⟨some 90, .pu (.mov (.t 95)), none⟩, ⟨some 96, .pu (.ext (.t 90) 0), none⟩, ⟨some 97, .pu (.ext (.t 90) 1), none⟩, ⟨some 18, .al (.zero [(.i .i64 0), (.i .i64 0), (.i .u64 0), (.i .u64 0), (.i .u64 0), (.i .u64 0), (.i .i64 0), (.b false)]), none⟩, ⟨none, .ef (.store 8 (.t 18) (.t 96)), none⟩, ⟨some 19, .pu (.mov (.t 97)), none⟩]) (.seq (.region [⟨some 99, .ld true 8 (.t 18), none⟩, ⟨some 100, .ef (.call 55 [(.t 99)]), none⟩, ⟨some 98, .pu (.mov (.t 100)), none⟩, ⟨some 101, .pu (.ext (.t 98) 0), none⟩, ⟨some 102, .pu (.ext (.t 98) 1), none⟩, ⟨some 20, .pu (.mov (.t 101)), none⟩, ⟨some 21, .pu (.mov (.t 102)), none⟩]) (.seq (.seq (.region o11_20) c11_13) c11_6)))
def c11_25 : IC := (.seq (.region [⟨some 88, .pu (.mov (.t 11)), none⟩, ⟨some 89, .pu (.bin .add (.t 88) (.c (.i .i64 1))), none⟩, ⟨some 11, .pu (.mov (.t 89)), none⟩]) (.exit 1))
def c11_24 : IC := (.cond (.t 55) (.seq (.draw [⟨some 57, .pu (.mov (.t 9)), none⟩, ⟨some 58, .ld true 2 (.t 8), none⟩, ⟨some 59, .pu (.mov (.t 1)), none⟩, ⟨some 60, .pu (.mov (.t 11)), none⟩, ⟨some 61, .pu (.ia 3 (.t 59) (.t 60)), none⟩, ⟨some 62, .ld true 3 (.t 61), none⟩, ⟨some 63, .ef (.call 50 [(.t 58), (.t 62)]), none⟩, ⟨some 64, .ef (.call 59 [(.t 57), (.t 63)]), none⟩, ⟨some 56, .pu (.mov (.t 64)), none⟩, ⟨some 65, .pu (.ext (.t 56) 0), none⟩, ⟨some 66, .pu (.ext (.t 56) 1), none⟩, ⟨some 14, .al (.zero [(.i .i64 0), (.i .i64 0), (.i .u64 0), (.i .u64 0), (.i .u64 0), (.i .u64 0), (.i .i64 0), (.b false), (.b false)]), none⟩, ⟨none, .ef (.store 9 (.t 14) (.t 65)), none⟩, ⟨some 15, .pu (.mov (.t 66)), none⟩] []) (.seq (.region [⟨some 68, .ld true 9 (.t 14), none⟩, ⟨some 69, .ef (.call 53 [(.t 68)]), none⟩, ⟨some 67, .pu (.mov (.t 69)), none⟩, ⟨some 70, .pu (.ext (.t 67) 0), none⟩, ⟨some 71, .pu (.ext (.t 67) 1), none⟩, ⟨some 16, .pu (.mov (.t 70)), none⟩, ⟨some 17, .pu (.mov (.t 71)), none⟩]) (.seq (.seq (.region [⟨some 72, .pu (.mov (.t 16)), none⟩, ⟨some 73, .pu (.bin .eql (.t 72) (.c (.i .i64 0))), none⟩, ⟨some 74, .pu (.mov (.t 10)), none⟩, ⟨some 75, .pu (.lens (.t 74)), none⟩, ⟨some 76, .pu (.mov (.t 7)), none⟩, ⟨some 77, .pu (.bin .lss (.t 75) (.t 76)), none⟩, ⟨some 78, .pu (.eqz true .b (.t 73) (.t 77)), none⟩]) (.cond (.t 78) (.seq (.region [⟨some 6, .pu (.mov (.c (.b false))), none⟩]) .ret) .skip)) (.seq (.seq (.region [⟨some 79, .pu (.mov (.t 16)), none⟩, ⟨some 80, .pu (.bin .eql (.t 79) (.c (.i .i64 0))), none⟩]) (.cond (.t 80) (.region [⟨some 81, .pu (.mov (.t 10)), none⟩, ⟨some 82, .pu (.mov (.t 1)), none⟩, ⟨some 83, .pu (.mov (.t 11)), none⟩, ⟨some 84, .pu (.ia 3 (.t 82) (.t 83)), none⟩, ⟨some 85, .ld true 3 (.t 84), none⟩, ⟨some 86, .al (.sl 1 [(.i .u64 0), (.i .u64 0), (.i .u64 0)] [(0, 3, (.t 85))]), none⟩, ⟨some 87, .ef (.app 3 24 (.t 81) (.t 86)), none⟩, ⟨some 10, .pu (.mov (.t 87)), none⟩]) .skip)) c11_25)))) .skip)
def o11_26 : List IOp := [⟨some 55, .pu (.pick (.t 50) (.t 54) (.c (.b false))), none⟩] ++ []
def o11_27 : List IOp := [⟨some 51, .pu (.mov (.t 11)), some (50, true)⟩, ⟨some 52, .pu (.mov (.t 1)), some (50, true)⟩, ⟨some 53, .pu (.lens (.t 52)), some (50, true)⟩, ⟨some 54, .pu (.bin .lss (.t 51) (.t 53)), some (50, true)⟩] ++ o11_26
def o11_28 : List IOp := [⟨some 46, .pu (.mov (.t 2)), none⟩, ⟨some 47, .pu (.mov (.t 13)), none⟩, ⟨some 48, .pu (.ia 1 (.t 46) (.t 47)), none⟩, ⟨some 49, .ld false 1 (.t 48), none⟩, ⟨some 50, .pu (.mov (.t 49)), none⟩] ++ o11_27
def c11_3 : IC := (.seq (.block 1 (.seq (.seq (.region o11_28) c11_24) c11_5)) c11_4)
def c11_30 : IC := (.cond (.t 43) .skip (.exit 0))
def o11_31 : List IOp := [⟨some 43, .pu (.pick (.t 40) (.t 42) (.c (.b false))), none⟩] ++ []
def o11_32 : List IOp := [⟨some 41, .pu (.mov (.t 13)), some (40, true)⟩, ⟨some 42, .pu (.bin .lss (.t 41) (.c (.i .i64 40))), some (40, true)⟩] ++ o11_31
def o11_33 : List IOp := [⟨some 36, .pu (.mov (.t 13)), none⟩, ⟨some 37, .pu (.mov (.t 2)), none⟩, ⟨some 38, .pu (.lens (.t 37)), none⟩, ⟨some 39, .pu (.bin .lss (.t 36) (.t 38)), none⟩, ⟨some 40, .pu (.mov (.t 39)), none⟩] ++ o11_32
def c11_2 : IC := (.seq (.seq (.region o11_33) c11_30) c11_3)
def c11 : IC := (.seq (.region [⟨some 6, .pu (.mov (.c (.b false))), none⟩]) (.seq (.region [⟨some 22, .pu (.mov (.t 0)), none⟩, ⟨some 23, .pu (.bin .and (.t 22) (.c (.i .i64 1))), none⟩, ⟨some 24, .pu (.cvi .u64 (.t 23)), none⟩, ⟨some 25, .pu (.bin .shl (.c (.i .i64 2)) (.t 24)), none⟩, ⟨some 7, .pu (.mov (.t 25)), none⟩]) (.seq (.region [⟨some 26, .pu (.mov (.t 7)), none⟩, ⟨some 27, .pu (.bld [(.i .i64 0), (.i .i64 0)] [(0, 1, (.c (.i .i64 1))), (1, 1, (.t 26))]), none⟩, ⟨some 8, .al (.zero [(.i .i64 0), (.i .i64 0)]), none⟩, ⟨none, .ef (.store 2 (.t 8) (.t 27)), none⟩]) (.seq (.region [⟨some 28, .pu (.mov (.t 7)), none⟩, ⟨some 29, .ef (.call 47 [(.t 28)]), none⟩, ⟨some 30, .pu (.bin .add (.c (.i .i64 1)) (.t 29)), none⟩, ⟨some 31, .ef (.call 46 [(.t 30)]), none⟩, ⟨some 9, .pu (.mov (.t 31)), none⟩]) (.seq (.region [⟨some 32, .pu (.mov (.t 9)), none⟩, ⟨some 33, .ld true 2 (.t 8), none⟩, ⟨some 34, .ef (.call 48 [(.t 32), (.t 33)]), none⟩]) (.seq (.region [⟨some 35, .al (.sl 0 [] []), none⟩, ⟨some 10, .pu (.mov (.t 35)), none⟩, ⟨some 11, .pu (.mov (.c (.i .i64 0))), none⟩, ⟨some 12, .pu (.mov (.c (.i .u64 0))), none⟩]) (.seq (.seq (.region [⟨some 13, .pu (.mov (.c (.i .i64 0))), none⟩]) (.block 0 (.loop c11_2))) c11_1)))))))
def ir11 : IFn := ⟨153, rs11, c11⟩
/-! cableway/arena.New -/
def rs46 : List RV := [(.t 2)]
def c46_1 : IC := (.seq (.region [⟨some 9, .pu (.mov (.t 0)), none⟩, ⟨some 10, .al (.mks 8 [(.i .u64 0)] (.t 9)), none⟩, ⟨some 11, .pu (.bld [.nsl, .nsl, (.i .i64 0)] [(0, 1, (.t 10))]), none⟩, ⟨some 12, .al (.box (.t 11)), none⟩, ⟨some 2, .pu (.mov (.t 12)), none⟩]) .ret)
def c46_2 : IC := (.cond (.t 8) (.seq (.region [⟨some 2, .pu (.mov (.c (.p none))), none⟩]) .ret) .skip)
def o46_3 : List IOp := [⟨some 8, .pu (.pick (.t 5) (.c (.b true)) (.t 7)), none⟩] ++ []
def o46_4 : List IOp := [⟨some 6, .pu (.mov (.t 0)), some (5, false)⟩, ⟨some 7, .pu (.bin .gtr (.t 6) (.c (.i .i64 16384))), some (5, false)⟩] ++ o46_3
def o46_5 : List IOp := [⟨some 3, .pu (.mov (.t 0)), none⟩, ⟨some 4, .pu (.bin .lss (.t 3) (.c (.i .i64 1))), none⟩, ⟨some 5, .pu (.mov (.t 4)), none⟩] ++ o46_4
def c46 : IC := (.seq (.region [⟨some 2, .pu (.mov (.c (.p none))), none⟩]) (.seq (.seq (.region o46_5) c46_2) c46_1))
def ir46 : IFn := ⟨13, rs46, c46⟩
/-! cableway/ring.Cells -/
def rs47 : List RV := [(.t 2)]
def c47 : IC := (.seq (.region [⟨some 2, .pu (.mov (.c (.i .i64 0))), none⟩]) (.seq (.region [⟨some 3, .pu (.mov (.t 0)), none⟩, ⟨some 4, .pu (.max (.t 3) [(.c (.i .i64 0))]), none⟩, ⟨some 5, .pu (.min (.t 4) [(.c (.i .i64 64))]), none⟩, ⟨some 6, .pu (.bin .mul (.t 5) (.c (.i .i64 4))), none⟩, ⟨some 7, .pu (.bin .add (.c (.i .i64 1)) (.t 6)), none⟩, ⟨some 2, .pu (.mov (.t 7)), none⟩]) .ret))
def ir47 : IFn := ⟨8, rs47, c47⟩
/-! cableway/ring.Init -/
def rs48 : List RV := [(.t 4)]
def c48_2 : IC := (.seq (.region [⟨some 4, .pu (.mov (.c (.i .i64 0))), none⟩]) .ret)
def c48_4 : IC := (.region [⟨some 51, .pu (.bin .add (.t 27) (.c (.i .i64 1))), none⟩, ⟨some 27, .pu (.mov (.t 51)), none⟩])
def c48_5 : IC := (.seq (.region [⟨some 39, .pu (.bin .lss (.t 38) (.c (.i .i64 3))), none⟩]) (.seq (.cond (.t 39) .skip (.exit 2)) (.seq (.block 3 (.seq (.region [⟨some 40, .pu (.mov (.t 38)), none⟩, ⟨some 6, .pu (.mov (.t 40)), none⟩]) (.region [⟨some 41, .pu (.mov (.t 0)), none⟩, ⟨some 42, .ld true 2 (.t 3), none⟩, ⟨some 43, .pu (.mov (.t 5)), none⟩, ⟨some 44, .pu (.cvi .u64 (.t 43)), none⟩, ⟨some 45, .ef (.call 98 [(.t 42), (.t 44)]), none⟩, ⟨some 46, .pu (.bin .add (.t 45) (.c (.i .i64 1))), none⟩, ⟨some 47, .pu (.mov (.t 6)), none⟩, ⟨some 48, .pu (.bin .add (.t 46) (.t 47)), none⟩, ⟨some 49, .ef (.call 97 [(.t 41), (.t 48), (.c (.i .u64 0))]), none⟩]))) (.region [⟨some 50, .pu (.bin .add (.t 38) (.c (.i .i64 1))), none⟩, ⟨some 38, .pu (.mov (.t 50)), none⟩]))))
def c48_3 : IC := (.seq (.region [⟨some 28, .pu (.bin .lss (.t 27) (.t 26)), none⟩]) (.seq (.cond (.t 28) .skip (.exit 0)) (.seq (.block 1 (.seq (.region [⟨some 29, .pu (.mov (.t 27)), none⟩, ⟨some 5, .pu (.mov (.t 29)), none⟩]) (.seq (.region [⟨some 30, .pu (.mov (.t 0)), none⟩, ⟨some 31, .ld true 2 (.t 3), none⟩, ⟨some 32, .pu (.mov (.t 5)), none⟩, ⟨some 33, .pu (.cvi .u64 (.t 32)), none⟩, ⟨some 34, .ef (.call 98 [(.t 31), (.t 33)]), none⟩, ⟨some 35, .pu (.mov (.t 5)), none⟩, ⟨some 36, .pu (.cvi .u64 (.t 35)), none⟩, ⟨some 37, .ef (.call 97 [(.t 30), (.t 34), (.t 36)]), none⟩]) (.seq (.region [⟨some 38, .pu (.mov (.c (.i .i64 0))), none⟩]) (.block 2 (.loop c48_5)))))) c48_4)))
def c48_1 : IC := (.seq (.region [⟨some 21, .pu (.mov (.t 0)), none⟩, ⟨some 22, .pu (.fa 0 (.t 3)), none⟩, ⟨some 23, .ld false 1 (.t 22), none⟩, ⟨some 24, .ef (.call 97 [(.t 21), (.t 23), (.c (.i .u64 0))]), none⟩]) (.seq (.seq (.region [⟨some 25, .pu (.fa 1 (.t 3)), none⟩, ⟨some 26, .ld false 1 (.t 25), none⟩, ⟨some 27, .pu (.mov (.c (.i .i64 0))), none⟩]) (.block 0 (.loop c48_3))) c48_2))
def c48_6 : IC := (.cond (.t 20) (.seq (.region [⟨some 4, .pu (.mov (.c (.i .i64 1))), none⟩]) .ret) .skip)
def o48_7 : List IOp := [⟨some 20, .pu (.pick (.t 10) (.c (.b true)) (.t 19)), none⟩] ++ []
def o48_8 : List IOp := [⟨some 11, .pu (.fa 0 (.t 3)), some (10, false)⟩, ⟨some 12, .ld false 1 (.t 11), some (10, false)⟩, ⟨some 13, .pu (.fa 1 (.t 3)), some (10, false)⟩, ⟨some 14, .ld false 1 (.t 13), some (10, false)⟩, ⟨some 15, .ef (.call 47 [(.t 14)]), some (10, false)⟩, ⟨some 16, .pu (.bin .add (.t 12) (.t 15)), some (10, false)⟩, ⟨some 17, .pu (.mov (.t 0)), some (10, false)⟩, ⟨some 18, .ef (.call 96 [(.t 17)]), some (10, false)⟩, ⟨some 19, .pu (.bin .gtr (.t 16) (.t 18)), some (10, false)⟩] ++ o48_7
def o48_9 : List IOp := [⟨some 7, .ld true 2 (.t 3), none⟩, ⟨some 8, .ef (.call 95 [(.t 7)]), none⟩, ⟨some 9, .pu (.un .not (.t 8)), none⟩, ⟨some 10, .pu (.mov (.t 9)), none⟩] ++ o48_8
def c48 : IC := (.seq (.region [⟨some 3, .al (.box (.t 1)), none⟩, ⟨some 4, .pu (.mov (.c (.i .i64 0))), none⟩]) (.seq (.seq (.draw o48_9 [(5, 8), (5, 11)]) c48_6) c48_1))
def ir48 : IFn := ⟨52, rs48, c48⟩
/-! cableway/fetch.New -/
def rs49 : List RV := [(.c 4 true 8)]
def c49 : IC := (.seq (.region [⟨some 2, .al (.box (.t 0)), none⟩, ⟨some 4, .al (.zero [(.i .i64 0), (.i .i64 0), (.i .u64 0), (.i .u64 0), (.i .u64 0), (.i .u64 0), (.i .i64 0), (.b false)]), none⟩]) (.seq (.region [⟨some 5, .ld true 2 (.t 2), none⟩, ⟨some 6, .pu (.mov (.t 1)), none⟩, ⟨some 7, .pu (.bld [(.i .i64 0), (.i .i64 0), (.i .u64 0), (.i .u64 0), (.i .u64 0), (.i .u64 0), (.i .i64 0), (.b false)] [(0, 2, (.t 5)), (2, 1, (.t 6))]), none⟩, ⟨none, .ef (.store 8 (.t 4) (.t 7)), none⟩]) .ret))
def ir49 : IFn := ⟨8, rs49, c49⟩
/-! cableway/send.New -/
def rs50 : List RV := [(.c 4 true 9)]
def c50 : IC := (.seq (.region [⟨some 2, .al (.box (.t 0)), none⟩, ⟨some 3, .al (.box (.t 1)), none⟩, ⟨some 4, .al (.zero [(.i .i64 0), (.i .i64 0), (.i .u64 0), (.i .u64 0), (.i .u64 0), (.i .u64 0), (.i .i64 0), (.b false), (.b false)]), none⟩]) (.seq (.region [⟨some 5, .ld true 2 (.t 2), none⟩, ⟨some 6, .ld true 3 (.t 3), none⟩, ⟨some 7, .pu (.bld [(.i .i64 0), (.i .i64 0), (.i .u64 0), (.i .u64 0), (.i .u64 0), (.i .u64 0), (.i .i64 0), (.b false), (.b false)] [(0, 2, (.t 5)), (2, 3, (.t 6))]), none⟩, ⟨none, .ef (.store 9 (.t 4) (.t 7)), none⟩]) .ret))
def ir50 : IFn := ⟨8, rs50, c50⟩
/-! (*cableway/arena.Arena).Begin -/
def rs51 : List RV := []
def c51 : IC := (.seq (.region [⟨some 2, .pu (.mov (.t 0)), none⟩, ⟨some 3, .pu (.eqz true .p (.t 2) (.c (.p none))), none⟩]) (.cond (.t 3) (.region [⟨some 4, .pu (.mov (.t 0)), none⟩, ⟨some 5, .pu (.nilc (.t 4)), none⟩, ⟨some 6, .pu (.fa 1 (.t 5)), none⟩, ⟨none, .ef (.store 1 (.t 6) (.c .nsl)), none⟩]) .skip))
def ir51 : IFn := ⟨7, rs51, c51⟩
/-! (cableway/send.Task).Step -/
def rs52 : List RV := [(.c 4 true 9)]
def c52_1 : IC := (.seq (.region [⟨some 89, .ld true 9 (.t 2), none⟩, ⟨none, .ef (.store 9 (.t 4) (.t 89)), none⟩]) .ret)
def c52 : IC := (.seq (.region [⟨some 2, .al (.box (.t 0)), none⟩, ⟨some 4, .al (.zero [(.i .i64 0), (.i .i64 0), (.i .u64 0), (.i .u64 0), (.i .u64 0), (.i .u64 0), (.i .i64 0), (.b false), (.b false)]), none⟩]) (.seq (.seq (.region [⟨some 9, .ld true 9 (.t 2), none⟩, ⟨some 10, .ef (.call 53 [(.t 9)]), none⟩, ⟨some 8, .pu (.mov (.t 10)), none⟩, ⟨some 11, .pu (.ext (.t 8) 0), none⟩, ⟨some 12, .pu (.ext (.t 8) 1), none⟩, ⟨some 5, .pu (.mov (.t 11)), none⟩, ⟨some 6, .pu (.mov (.t 12)), none⟩]) (.seq (.region [⟨some 13, .pu (.mov (.t 6)), none⟩]) (.cond (.t 13) (.seq (.region [⟨some 14, .ld true 9 (.t 2), none⟩, ⟨none, .ef (.store 9 (.t 4) (.t 14)), none⟩]) .ret) .skip))) (.seq (.seq (.region [⟨some 15, .pu (.fa 0 (.t 2)), none⟩, ⟨some 16, .ld true 2 (.t 15), none⟩, ⟨some 17, .ef (.call 95 [(.t 16)]), none⟩, ⟨some 18, .pu (.un .not (.t 17)), none⟩]) (.cond (.t 18) (.seq (.region [⟨some 19, .pu (.fa 8 (.t 2)), none⟩, ⟨none, .ef (.store 1 (.t 19) (.c (.b true))), none⟩]) (.seq (.region [⟨some 20, .ld true 9 (.t 2), none⟩, ⟨none, .ef (.store 9 (.t 4) (.t 20)), none⟩]) .ret)) .skip)) (.seq (.seq (.region [⟨some 21, .pu (.fa 6 (.t 2)), none⟩, ⟨some 22, .ld false 1 (.t 21), none⟩]) (.block 0 (.seq (.region [⟨some 43, .pu (.bin .eql (.t 22) (.c (.i .i64 0))), none⟩, ⟨some 42, .pu (.mov (.t 43)), none⟩]) (.cond (.t 42) (.region [⟨some 44, .pu (.mov (.t 1)), none⟩, ⟨some 45, .pu (.fa 0 (.t 2)), none⟩, ⟨some 46, .ld true 2 (.t 45), none⟩, ⟨some 47, .ef (.call 100 [(.t 46)]), none⟩, ⟨some 48, .ef (.call 99 [(.t 44), (.t 47)]), none⟩, ⟨some 49, .pu (.fa 5 (.t 2)), none⟩, ⟨none, .ef (.store 1 (.t 49) (.t 48)), none⟩, ⟨some 50, .pu (.fa 6 (.t 2)), none⟩, ⟨none, .ef (.store 1 (.t 50) (.c (.i .i64 1))), none⟩]) (.seq (.region [⟨some 52, .pu (.bin .eql (.t 22) (.c (.i .i64 1))), none⟩, ⟨some 51, .pu (.mov (.t 52)), none⟩]) (.cond (.t 51) (.draw [⟨some 53, .ld true 9 (.t 2), none⟩, ⟨some 54, .pu (.mov (.t 1)), none⟩, ⟨some 55, .pu (.fa 0 (.t 2)), none⟩, ⟨some 56, .ld true 2 (.t 55), none⟩, ⟨some 57, .pu (.fa 5 (.t 2)), none⟩, ⟨some 58, .ld false 1 (.t 57), none⟩, ⟨some 59, .ef (.call 102 [(.t 56), (.t 58)]), none⟩, ⟨some 60, .ef (.call 99 [(.t 54), (.t 59)]), none⟩, ⟨some 61, .ef (.call 101 [(.t 53), (.t 60)]), none⟩, ⟨none, .ef (.store 9 (.t 2) (.t 61)), none⟩] [(0, 6), (0, 7)]) (.seq (.region [⟨some 63, .pu (.bin .eql (.t 22) (.c (.i .i64 2))), none⟩, ⟨some 62, .pu (.mov (.t 63)), none⟩]) (.cond (.t 62) (.seq (.region [⟨some 64, .pu (.fa 6 (.t 2)), none⟩, ⟨none, .ef (.store 1 (.t 64) (.c (.i .i64 0))), none⟩]) (.seq (.draw [⟨some 65, .pu (.mov (.t 1)), none⟩, ⟨some 66, .pu (.fa 0 (.t 2)), none⟩, ⟨some 67, .ld true 2 (.t 66), none⟩, ⟨some 68, .ef (.call 100 [(.t 67)]), none⟩, ⟨some 69, .pu (.fa 5 (.t 2)), none⟩, ⟨some 70, .ld false 1 (.t 69), none⟩, ⟨some 71, .pu (.fa 5 (.t 2)), none⟩, ⟨some 72, .ld false 1 (.t 71), none⟩, ⟨some 73, .pu (.bin .add (.t 72) (.c (.i .u64 1))), none⟩, ⟨some 74, .ef (.call 103 [(.t 65), (.t 68), (.t 70), (.t 73)]), none⟩] [(5, 3), (7, 3)]) (.cond (.t 74) (.region [⟨some 75, .pu (.fa 6 (.t 2)), none⟩, ⟨none, .ef (.store 1 (.t 75) (.c (.i .i64 3))), none⟩]) .skip))) (.seq (.region [⟨some 77, .pu (.bin .eql (.t 22) (.c (.i .i64 6))), none⟩, ⟨some 76, .pu (.mov (.t 77)), none⟩]) (.cond (.t 76) (.seq (.draw [⟨some 78, .pu (.mov (.t 1)), none⟩, ⟨some 79, .pu (.fa 0 (.t 2)), none⟩, ⟨some 80, .ld true 2 (.t 79), none⟩, ⟨some 81, .pu (.fa 5 (.t 2)), none⟩, ⟨some 82, .ld false 1 (.t 81), none⟩, ⟨some 83, .ef (.call 102 [(.t 80), (.t 82)]), none⟩, ⟨some 84, .pu (.fa 5 (.t 2)), none⟩, ⟨some 85, .ld false 1 (.t 84), none⟩, ⟨some 86, .pu (.bin .add (.t 85) (.c (.i .u64 1))), none⟩, ⟨some 87, .ef (.call 97 [(.t 78), (.t 83), (.t 86)]), none⟩] [(7, 5)]) (.region [⟨some 88, .pu (.fa 6 (.t 2)), none⟩, ⟨none, .ef (.store 1 (.t 88) (.c (.i .i64 7))), none⟩])) (.seq (.region [⟨some 23, .pu (.fa 6 (.t 2)), none⟩, ⟨some 24, .ld false 1 (.t 23), none⟩, ⟨some 25, .pu (.bin .sub (.t 24) (.c (.i .i64 3))), none⟩, ⟨some 7, .pu (.mov (.t 25)), none⟩]) (.seq (.draw [⟨some 26, .pu (.mov (.t 1)), none⟩, ⟨some 27, .pu (.fa 0 (.t 2)), none⟩, ⟨some 28, .ld true 2 (.t 27), none⟩, ⟨some 29, .pu (.fa 5 (.t 2)), none⟩, ⟨some 30, .ld false 1 (.t 29), none⟩, ⟨some 31, .pu (.mov (.t 7)), none⟩, ⟨some 32, .ef (.call 104 [(.t 28), (.t 30), (.t 31)]), none⟩, ⟨some 33, .pu (.mov (.t 7)), none⟩, ⟨some 34, .pu (.fa 2 (.t 2)), none⟩, ⟨some 35, .pu (.iaa 1 3 (.t 34) (.t 33)), none⟩, ⟨some 36, .ld false 1 (.t 35), none⟩, ⟨some 37, .ef (.call 97 [(.t 26), (.t 32), (.t 36)]), none⟩] [(10, 6)]) (.region [⟨some 38, .pu (.fa 6 (.t 2)), none⟩, ⟨some 39, .ld false 1 (.t 38), none⟩, ⟨some 40, .pu (.bin .add (.t 39) (.c (.i .i64 1))), none⟩, ⟨some 41, .pu (.fa 6 (.t 2)), none⟩, ⟨none, .ef (.store 1 (.t 41) (.t 40)), none⟩]))))))))))))) c52_1))))
def ir52 : IFn := ⟨90, rs52, c52⟩
/-! (cableway/send.Task).Done -/
def rs53 : List RV := [(.t 2), (.t 3)]
def c53 : IC := (.seq (.region [⟨some 1, .al (.box (.t 0)), none⟩, ⟨some 2, .pu (.mov (.c (.i .i64 0))), none⟩, ⟨some 3, .pu (.mov (.c (.b false))), none⟩]) (.seq (.block 0 (.seq (.region [⟨some 5, .pu (.fa 8 (.t 1)), none⟩, ⟨some 6, .ld false 1 (.t 5), none⟩, ⟨some 4, .pu (.mov (.t 6)), none⟩]) (.cond (.t 4) (.seq (.region [⟨some 2, .pu (.mov (.c (.i .i64 3))), none⟩, ⟨some 3, .pu (.mov (.c (.b true))), none⟩]) .ret) (.seq (.region [⟨some 8, .pu (.fa 6 (.t 1)), none⟩, ⟨some 9, .ld false 1 (.t 8), none⟩, ⟨some 10, .pu (.bin .eql (.t 9) (.c (.i .i64 7))), none⟩, ⟨some 7, .pu (.mov (.t 10)), none⟩]) (.cond (.t 7) (.seq (.region [⟨some 2, .pu (.mov (.c (.i .i64 0))), none⟩, ⟨some 3, .pu (.mov (.c (.b true))), none⟩]) .ret) .skip))))) (.seq (.region [⟨some 2, .pu (.mov (.c (.i .i64 0))), none⟩, ⟨some 3, .pu (.mov (.c (.b false))), none⟩]) .ret)))
def ir53 : IFn := ⟨11, rs53, c53⟩
/-! (cableway/fetch.Task).Step -/
def rs54 : List RV := [(.c 4 true 8)]
def c54_1 : IC := (.seq (.region [⟨some 73, .ld true 8 (.t 2), none⟩, ⟨none, .ef (.store 8 (.t 4) (.t 73)), none⟩]) .ret)
def c54 : IC := (.seq (.region [⟨some 2, .al (.box (.t 0)), none⟩, ⟨some 4, .al (.zero [(.i .i64 0), (.i .i64 0), (.i .u64 0), (.i .u64 0), (.i .u64 0), (.i .u64 0), (.i .i64 0), (.b false)]), none⟩]) (.seq (.seq (.region [⟨some 9, .ld true 8 (.t 2), none⟩, ⟨some 10, .ef (.call 55 [(.t 9)]), none⟩, ⟨some 8, .pu (.mov (.t 10)), none⟩, ⟨some 11, .pu (.ext (.t 8) 0), none⟩, ⟨some 12, .pu (.ext (.t 8) 1), none⟩, ⟨some 5, .pu (.mov (.t 11)), none⟩, ⟨some 6, .pu (.mov (.t 12)), none⟩]) (.seq (.region [⟨some 13, .pu (.mov (.t 6)), none⟩]) (.cond (.t 13) (.seq (.region [⟨some 14, .ld true 8 (.t 2), none⟩, ⟨none, .ef (.store 8 (.t 4) (.t 14)), none⟩]) .ret) .skip))) (.seq (.seq (.region [⟨some 15, .pu (.fa 0 (.t 2)), none⟩, ⟨some 16, .ld true 2 (.t 15), none⟩, ⟨some 17, .ef (.call 95 [(.t 16)]), none⟩, ⟨some 18, .pu (.un .not (.t 17)), none⟩]) (.cond (.t 18) (.seq (.region [⟨some 19, .pu (.fa 7 (.t 2)), none⟩, ⟨none, .ef (.store 1 (.t 19) (.c (.b true))), none⟩]) (.seq (.region [⟨some 20, .ld true 8 (.t 2), none⟩, ⟨none, .ef (.store 8 (.t 4) (.t 20)), none⟩]) .ret)) .skip)) (.seq (.seq (.region [⟨some 21, .pu (.fa 6 (.t 2)), none⟩, ⟨some 22, .ld false 1 (.t 21), none⟩]) (.block 0 (.seq (.region [⟨some 42, .pu (.bin .eql (.t 22) (.c (.i .i64 0))), none⟩, ⟨some 41, .pu (.mov (.t 42)), none⟩]) (.cond (.t 41) (.seq (.draw [⟨some 43, .pu (.mov (.t 1)), none⟩, ⟨some 44, .pu (.fa 0 (.t 2)), none⟩, ⟨some 45, .ld true 2 (.t 44), none⟩, ⟨some 46, .pu (.fa 2 (.t 2)), none⟩, ⟨some 47, .ld false 1 (.t 46), none⟩, ⟨some 48, .ef (.call 102 [(.t 45), (.t 47)]), none⟩, ⟨some 49, .ef (.call 99 [(.t 43), (.t 48)]), none⟩, ⟨some 50, .pu (.fa 2 (.t 2)), none⟩, ⟨some 51, .ld false 1 (.t 50), none⟩, ⟨some 52, .pu (.bin .add (.t 51) (.c (.i .u64 1))), none⟩, ⟨some 53, .pu (.bin .eql (.t 49) (.t 52)), none⟩] [(8, 5), (8, 6)]) (.cond (.t 53) (.region [⟨some 54, .pu (.fa 6 (.t 2)), none⟩, ⟨none, .ef (.store 1 (.t 54) (.c (.i .i64 1))), none⟩]) (.region [⟨some 55, .pu (.fa 7 (.t 2)), none⟩, ⟨none, .ef (.store 1 (.t 55) (.c (.b true))), none⟩]))) (.seq (.region [⟨some 57, .pu (.bin .eql (.t 22) (.c (.i .i64 4))), none⟩, ⟨some 56, .pu (.mov (.t 57)), none⟩]) (.cond (.t 56) (.seq (.draw [⟨some 58, .pu (.mov (.t 1)), none⟩, ⟨some 59, .pu (.fa 0 (.t 2)), none⟩, ⟨some 60, .ld true 2 (.t 59), none⟩, ⟨some 61, .pu (.fa 2 (.t 2)), none⟩, ⟨some 62, .ld false 1 (.t 61), none⟩, ⟨some 63, .ef (.call 102 [(.t 60), (.t 62)]), none⟩, ⟨some 64, .pu (.fa 2 (.t 2)), none⟩, ⟨some 65, .ld false 1 (.t 64), none⟩, ⟨some 66, .pu (.fa 0 (.t 2)), none⟩, ⟨some 67, .pu (.fa 1 (.t 66)), none⟩, ⟨some 68, .ld false 1 (.t 67), none⟩, ⟨some 69, .pu (.cvi .u64 (.t 68)), none⟩, ⟨some 70, .pu (.bin .add (.t 65) (.t 69)), none⟩, ⟨some 71, .ef (.call 97 [(.t 58), (.t 63), (.t 70)]), none⟩] [(7, 5), (10, 5)]) (.region [⟨some 72, .pu (.fa 6 (.t 2)), none⟩, ⟨none, .ef (.store 1 (.t 72) (.c (.i .i64 5))), none⟩])) (.seq (.region [⟨some 23, .pu (.fa 6 (.t 2)), none⟩, ⟨some 24, .ld false 1 (.t 23), none⟩, ⟨some 25, .pu (.bin .sub (.t 24) (.c (.i .i64 1))), none⟩, ⟨some 7, .pu (.mov (.t 25)), none⟩]) (.seq (.region [⟨some 26, .pu (.mov (.t 7)), none⟩, ⟨some 27, .pu (.mov (.t 1)), none⟩, ⟨some 28, .pu (.fa 0 (.t 2)), none⟩, ⟨some 29, .ld true 2 (.t 28), none⟩, ⟨some 30, .pu (.fa 2 (.t 2)), none⟩, ⟨some 31, .ld false 1 (.t 30), none⟩, ⟨some 32, .pu (.mov (.t 7)), none⟩, ⟨some 33, .ef (.call 104 [(.t 29), (.t 31), (.t 32)]), none⟩, ⟨some 34, .ef (.call 99 [(.t 27), (.t 33)]), none⟩, ⟨some 35, .pu (.fa 3 (.t 2)), none⟩, ⟨some 36, .pu (.iaa 1 3 (.t 35) (.t 26)), none⟩, ⟨none, .ef (.store 1 (.t 36) (.t 34)), none⟩]) (.region [⟨some 37, .pu (.fa 6 (.t 2)), none⟩, ⟨some 38, .ld false 1 (.t 37), none⟩, ⟨some 39, .pu (.bin .add (.t 38) (.c (.i .i64 1))), none⟩, ⟨some 40, .pu (.fa 6 (.t 2)), none⟩, ⟨none, .ef (.store 1 (.t 40) (.t 39)), none⟩]))))))))) c54_1))))
def ir54 : IFn := ⟨74, rs54, c54⟩
/-! (cableway/fetch.Task).Done -/
def rs55 : List RV := [(.t 2), (.t 3)]
def c55 : IC := (.seq (.region [⟨some 1, .al (.box (.t 0)), none⟩, ⟨some 2, .pu (.mov (.c (.i .i64 0))), none⟩, ⟨some 3, .pu (.mov (.c (.b false))), none⟩]) (.seq (.block 0 (.seq (.region [⟨some 5, .pu (.fa 7 (.t 1)), none⟩, ⟨some 6, .ld false 1 (.t 5), none⟩, ⟨some 4, .pu (.mov (.t 6)), none⟩]) (.cond (.t 4) (.seq (.region [⟨some 2, .pu (.mov (.c (.i .i64 4))), none⟩, ⟨some 3, .pu (.mov (.c (.b true))), none⟩]) .ret) (.seq (.region [⟨some 8, .pu (.fa 6 (.t 1)), none⟩, ⟨some 9, .ld false 1 (.t 8), none⟩, ⟨some 10, .pu (.bin .eql (.t 9) (.c (.i .i64 5))), none⟩, ⟨some 7, .pu (.mov (.t 10)), none⟩]) (.cond (.t 7) (.seq (.region [⟨some 2, .pu (.mov (.c (.i .i64 0))), none⟩, ⟨some 3, .pu (.mov (.c (.b true))), none⟩]) .ret) .skip))))) (.seq (.region [⟨some 2, .pu (.mov (.c (.i .i64 0))), none⟩, ⟨some 3, .pu (.mov (.c (.b false))), none⟩]) .ret)))
def ir55 : IFn := ⟨11, rs55, c55⟩
/-! (cableway/fetch.Task).Words -/
def rs56 : List RV := [(.c 2 true 3)]
def c56 : IC := (.seq (.region [⟨some 1, .al (.box (.t 0)), none⟩, ⟨some 2, .al (.zero [(.i .u64 0), (.i .u64 0), (.i .u64 0)]), none⟩]) (.seq (.seq (.region [⟨some 3, .pu (.fa 6 (.t 1)), none⟩, ⟨some 4, .ld false 1 (.t 3), none⟩, ⟨some 5, .pu (.bin .neq (.t 4) (.c (.i .i64 5))), none⟩]) (.cond (.t 5) (.seq (.region [⟨some 6, .pu (.bld [(.i .u64 0), (.i .u64 0), (.i .u64 0)] []), none⟩, ⟨none, .ef (.store 3 (.t 2) (.t 6)), none⟩]) .ret) .skip)) (.seq (.region [⟨some 7, .pu (.fa 3 (.t 1)), none⟩, ⟨some 8, .ld true 3 (.t 7), none⟩, ⟨none, .ef (.store 3 (.t 2) (.t 8)), none⟩]) .ret)))
def ir56 : IFn := ⟨9, rs56, c56⟩
/-! (*cableway/arena.Arena).Touched -/
def rs57 : List RV := [(.t 2)]
def c57 : IC := (.seq (.region [⟨some 2, .pu (.mov (.c .nsl)), none⟩]) (.seq (.seq (.region [⟨some 3, .pu (.mov (.t 0)), none⟩, ⟨some 4, .pu (.eqz false .p (.t 3) (.c (.p none))), none⟩]) (.cond (.t 4) (.seq (.region [⟨some 2, .pu (.mov (.c .nsl)), none⟩]) .ret) .skip)) (.seq (.region [⟨some 5, .pu (.mov (.t 0)), none⟩, ⟨some 6, .pu (.nilc (.t 5)), none⟩, ⟨some 7, .pu (.fa 1 (.t 6)), none⟩, ⟨some 8, .ld false 1 (.t 7), none⟩, ⟨some 9, .ef (.call 105 [(.t 8)]), none⟩, ⟨some 2, .pu (.mov (.t 9)), none⟩]) .ret)))
def ir57 : IFn := ⟨10, rs57, c57⟩
/-! cableway/cablewaylaw08.awake -/
def rs58 : List RV := [(.t 0)]
def o58_1 : List IOp := [⟨some 53, .pu (.pick (.t 49) (.t 52) (.c (.b false))), none⟩, ⟨some 0, .pu (.mov (.t 53)), none⟩] ++ []
def o58_2 : List IOp := [⟨some 50, .pu (.mov (.t 1)), some (49, true)⟩, ⟨some 51, .ld true 2 (.t 2), some (49, true)⟩, ⟨some 52, .ef (.call 106 [(.t 50), (.t 51), (.c (.i .u64 2))]), some (49, true)⟩] ++ o58_1
def o58_3 : List IOp := [⟨some 48, .pu (.pick (.t 43) (.t 47) (.c (.b false))), none⟩, ⟨some 49, .pu (.mov (.t 48)), none⟩] ++ o58_2
def o58_4 : List IOp := [⟨some 44, .ld true 8 (.t 4), some (43, true)⟩, ⟨some 45, .ef (.call 56 [(.t 44)]), some (43, true)⟩, ⟨some 46, .pu (.bld [(.i .u64 0), (.i .u64 0), (.i .u64 0)] [(0, 1, (.c (.i .u64 1))), (1, 1, (.c (.i .u64 2))), (2, 1, (.c (.i .u64 3)))]), some (43, true)⟩, ⟨some 47, .pu (.eqa false [.i, .i, .i] (.t 45) (.t 46)), some (43, true)⟩] ++ o58_3
def o58_5 : List IOp := [⟨some 42, .pu (.pick (.t 39) (.t 41) (.c (.b false))), none⟩, ⟨some 43, .pu (.mov (.t 42)), none⟩] ++ o58_4
def o58_6 : List IOp := [⟨some 40, .pu (.mov (.t 6)), some (39, true)⟩, ⟨some 41, .pu (.bin .eql (.t 40) (.c (.i .i64 0))), some (39, true)⟩] ++ o58_5
def o58_7 : List IOp := [⟨some 38, .pu (.pick (.t 36) (.t 37) (.c (.b false))), none⟩, ⟨some 39, .pu (.mov (.t 38)), none⟩] ++ o58_6
def o58_8 : List IOp := [⟨some 37, .pu (.mov (.t 7)), some (36, true)⟩] ++ o58_7
def o58_9 : List IOp := [⟨some 35, .pu (.pick (.t 32) (.t 34) (.c (.b false))), none⟩, ⟨some 36, .pu (.mov (.t 35)), none⟩] ++ o58_8
def o58_10 : List IOp := [⟨some 33, .pu (.mov (.t 5)), some (32, true)⟩, ⟨some 34, .pu (.bin .eql (.t 33) (.c (.i .i64 5))), some (32, true)⟩] ++ o58_9
def o58_11 : List IOp := [⟨some 30, .pu (.mov (.t 3)), none⟩, ⟨some 31, .pu (.bin .eql (.t 30) (.c (.i .i64 0))), none⟩, ⟨some 32, .pu (.mov (.t 31)), none⟩] ++ o58_10
def c58 : IC := (.seq (.region [⟨some 0, .pu (.mov (.c (.b false))), none⟩]) (.seq (.region [⟨some 8, .ef (.call 46 [(.c (.i .i64 9))]), none⟩, ⟨some 1, .pu (.mov (.t 8)), none⟩]) (.seq (.region [⟨some 9, .pu (.bld [(.i .i64 0), (.i .i64 0)] [(1, 1, (.c (.i .i64 2)))]), none⟩, ⟨some 2, .al (.zero [(.i .i64 0), (.i .i64 0)]), none⟩, ⟨none, .ef (.store 2 (.t 2) (.t 9)), none⟩]) (.seq (.region [⟨some 10, .pu (.mov (.t 1)), none⟩, ⟨some 11, .ld true 2 (.t 2), none⟩, ⟨some 12, .ef (.call 48 [(.t 10), (.t 11)]), none⟩, ⟨some 3, .pu (.mov (.t 12)), none⟩]) (.seq (.region [⟨some 13, .pu (.mov (.t 1)), none⟩, ⟨some 14, .ld true 2 (.t 2), none⟩, ⟨some 15, .pu (.bld [(.i .u64 0), (.i .u64 0), (.i .u64 0)] [(0, 1, (.c (.i .u64 1))), (1, 1, (.c (.i .u64 2))), (2, 1, (.c (.i .u64 3)))]), none⟩, ⟨some 16, .ef (.call 50 [(.t 14), (.t 15)]), none⟩, ⟨some 17, .ef (.call 59 [(.t 13), (.t 16)]), none⟩]) (.seq (.region [⟨some 19, .pu (.mov (.t 1)), none⟩, ⟨some 20, .ld true 2 (.t 2), none⟩, ⟨some 21, .ef (.call 49 [(.t 20), (.c (.i .u64 0))]), none⟩, ⟨some 22, .ef (.call 60 [(.t 19), (.t 21)]), none⟩, ⟨some 18, .pu (.mov (.t 22)), none⟩, ⟨some 23, .pu (.ext (.t 18) 0), none⟩, ⟨some 24, .pu (.ext (.t 18) 1), none⟩, ⟨some 4, .al (.zero [(.i .i64 0), (.i .i64 0), (.i .u64 0), (.i .u64 0), (.i .u64 0), (.i .u64 0), (.i .i64 0), (.b false)]), none⟩, ⟨none, .ef (.store 8 (.t 4) (.t 23)), none⟩, ⟨some 5, .pu (.mov (.t 24)), none⟩]) (.seq (.region [⟨some 26, .ld true 8 (.t 4), none⟩, ⟨some 27, .ef (.call 55 [(.t 26)]), none⟩, ⟨some 25, .pu (.mov (.t 27)), none⟩, ⟨some 28, .pu (.ext (.t 25) 0), none⟩, ⟨some 29, .pu (.ext (.t 25) 1), none⟩, ⟨some 6, .pu (.mov (.t 28)), none⟩, ⟨some 7, .pu (.mov (.t 29)), none⟩]) (.seq (.region o58_11) .ret))))))))
def ir58 : IFn := ⟨54, rs58, c58⟩
/-! cableway/cablewaylaw07.Run -/
def rs59 : List RV := [(.c 4 true 9), (.t 5)]
def c59_1 : IC := (.seq (.region [⟨some 31, .ld true 9 (.t 4), none⟩, ⟨some 32, .pu (.mov (.t 5)), none⟩, ⟨none, .ef (.store 9 (.t 4) (.t 31)), none⟩, ⟨some 5, .pu (.mov (.t 32)), none⟩]) .ret)
def c59_2 : IC := (.seq (.seq (.region [⟨some 9, .pu (.mov (.t 5)), none⟩, ⟨some 10, .pu (.bin .lss (.t 9) (.c (.i .i64 40))), none⟩]) (.cond (.t 10) .skip (.exit 0))) (.seq (.block 1 (.seq (.seq (.region [⟨some 14, .ld true 9 (.t 4), none⟩, ⟨some 15, .ef (.call 53 [(.t 14)]), none⟩, ⟨some 13, .pu (.mov (.t 15)), none⟩, ⟨some 16, .pu (.ext (.t 13) 0), none⟩, ⟨some 17, .pu (.ext (.t 13) 1), none⟩, ⟨some 6, .pu (.mov (.t 16)), none⟩, ⟨some 7, .pu (.mov (.t 17)), none⟩]) (.seq (.region [⟨some 18, .pu (.mov (.t 7)), none⟩]) (.cond (.t 18) (.seq (.region [⟨some 19, .ld true 9 (.t 4), none⟩, ⟨some 20, .pu (.mov (.t 5)), none⟩, ⟨none, .ef (.store 9 (.t 4) (.t 19)), none⟩, ⟨some 5, .pu (.mov (.t 20)), none⟩]) .ret) .skip))) (.seq (.region [⟨some 21, .pu (.mov (.t 0)), none⟩, ⟨some 22, .ef (.call 51 [(.t 21)]), none⟩]) (.seq (.region [⟨some 23, .ld true 9 (.t 4), none⟩, ⟨some 24, .pu (.mov (.t 0)), none⟩, ⟨some 25, .ef (.call 52 [(.t 23), (.t 24)]), none⟩, ⟨none, .ef (.store 9 (.t 4) (.t 25)), none⟩]) (.seq (.region [⟨some 26, .pu (.mov (.t 0)), none⟩, ⟨some 27, .ef (.call 57 [(.t 26)]), none⟩, ⟨some 28, .pu (.lens (.t 27)), none⟩, ⟨some 29, .pu (.bin .neq (.t 28) (.c (.i .i64 1))), none⟩]) (.cond (.t 29) (.seq (.region [⟨some 30, .ld true 9 (.t 4), none⟩, ⟨none, .ef (.store 9 (.t 4) (.t 30)), none⟩, ⟨some 5, .pu (.mov (.c (.i .i64 (-1)))), none⟩]) .ret) .skip)))))) (.region [⟨some 11, .pu (.mov (.t 5)), none⟩, ⟨some 12, .pu (.bin .add (.t 11) (.c (.i .i64 1))), none⟩, ⟨some 5, .pu (.mov (.t 12)), none⟩])))
def c59 : IC := (.seq (.region [⟨some 3, .al (.box (.t 1)), none⟩, ⟨some 4, .al (.zero [(.i .i64 0), (.i .i64 0), (.i .u64 0), (.i .u64 0), (.i .u64 0), (.i .u64 0), (.i .i64 0), (.b false), (.b false)]), none⟩, ⟨some 5, .pu (.mov (.c (.i .i64 0))), none⟩]) (.seq (.seq (.region [⟨some 8, .ld true 9 (.t 3), none⟩, ⟨none, .ef (.store 9 (.t 4) (.t 8)), none⟩]) (.block 0 (.loop c59_2))) c59_1))
def ir59 : IFn := ⟨33, rs59, c59⟩
/-! cableway/cablewaylaw08.Run -/
def rs60 : List RV := [(.c 4 true 8), (.t 5)]
def c60_1 : IC := (.seq (.region [⟨some 31, .ld true 8 (.t 4), none⟩, ⟨some 32, .pu (.mov (.t 5)), none⟩, ⟨none, .ef (.store 8 (.t 4) (.t 31)), none⟩, ⟨some 5, .pu (.mov (.t 32)), none⟩]) .ret)
def c60_2 : IC := (.seq (.seq (.region [⟨some 9, .pu (.mov (.t 5)), none⟩, ⟨some 10, .pu (.bin .lss (.t 9) (.c (.i .i64 40))), none⟩]) (.cond (.t 10) .skip (.exit 0))) (.seq (.block 1 (.seq (.seq (.region [⟨some 14, .ld true 8 (.t 4), none⟩, ⟨some 15, .ef (.call 55 [(.t 14)]), none⟩, ⟨some 13, .pu (.mov (.t 15)), none⟩, ⟨some 16, .pu (.ext (.t 13) 0), none⟩, ⟨some 17, .pu (.ext (.t 13) 1), none⟩, ⟨some 6, .pu (.mov (.t 16)), none⟩, ⟨some 7, .pu (.mov (.t 17)), none⟩]) (.seq (.region [⟨some 18, .pu (.mov (.t 7)), none⟩]) (.cond (.t 18) (.seq (.region [⟨some 19, .ld true 8 (.t 4), none⟩, ⟨some 20, .pu (.mov (.t 5)), none⟩, ⟨none, .ef (.store 8 (.t 4) (.t 19)), none⟩, ⟨some 5, .pu (.mov (.t 20)), none⟩]) .ret) .skip))) (.seq (.region [⟨some 21, .pu (.mov (.t 0)), none⟩, ⟨some 22, .ef (.call 51 [(.t 21)]), none⟩]) (.seq (.region [⟨some 23, .ld true 8 (.t 4), none⟩, ⟨some 24, .pu (.mov (.t 0)), none⟩, ⟨some 25, .ef (.call 54 [(.t 23), (.t 24)]), none⟩, ⟨none, .ef (.store 8 (.t 4) (.t 25)), none⟩]) (.seq (.region [⟨some 26, .pu (.mov (.t 0)), none⟩, ⟨some 27, .ef (.call 57 [(.t 26)]), none⟩, ⟨some 28, .pu (.lens (.t 27)), none⟩, ⟨some 29, .pu (.bin .neq (.t 28) (.c (.i .i64 1))), none⟩]) (.cond (.t 29) (.seq (.region [⟨some 30, .ld true 8 (.t 4), none⟩, ⟨none, .ef (.store 8 (.t 4) (.t 30)), none⟩, ⟨some 5, .pu (.mov (.c (.i .i64 (-1)))), none⟩]) .ret) .skip)))))) (.region [⟨some 11, .pu (.mov (.t 5)), none⟩, ⟨some 12, .pu (.bin .add (.t 11) (.c (.i .i64 1))), none⟩, ⟨some 5, .pu (.mov (.t 12)), none⟩])))
def c60 : IC := (.seq (.region [⟨some 3, .al (.box (.t 1)), none⟩, ⟨some 4, .al (.zero [(.i .i64 0), (.i .i64 0), (.i .u64 0), (.i .u64 0), (.i .u64 0), (.i .u64 0), (.i .i64 0), (.b false)]), none⟩, ⟨some 5, .pu (.mov (.c (.i .i64 0))), none⟩]) (.seq (.seq (.region [⟨some 8, .ld true 8 (.t 3), none⟩, ⟨none, .ef (.store 8 (.t 4) (.t 8)), none⟩]) (.block 0 (.loop c60_2))) c60_1))
def ir60 : IFn := ⟨33, rs60, c60⟩
/-! (cableway/fetch.Task).Begun -/
def rs61 : List RV := [(.t 2)]
def o61_1 : List IOp := [⟨some 10, .pu (.pick (.t 6) (.t 9) (.c (.b false))), none⟩, ⟨some 2, .pu (.mov (.t 10)), none⟩] ++ []
def o61_2 : List IOp := [⟨some 7, .pu (.fa 6 (.t 1)), some (6, true)⟩, ⟨some 8, .ld false 1 (.t 7), some (6, true)⟩, ⟨some 9, .pu (.bin .gtr (.t 8) (.c (.i .i64 0))), some (6, true)⟩] ++ o61_1
def o61_3 : List IOp := [⟨some 3, .pu (.fa 7 (.t 1)), none⟩, ⟨some 4, .ld false 1 (.t 3), none⟩, ⟨some 5, .pu (.un .not (.t 4)), none⟩, ⟨some 6, .pu (.mov (.t 5)), none⟩] ++ o61_2
def c61 : IC := (.seq (.region [⟨some 1, .al (.box (.t 0)), none⟩, ⟨some 2, .pu (.mov (.c (.b false))), none⟩]) (.seq (.region o61_3) .ret))
def ir61 : IFn := ⟨11, rs61, c61⟩
/-! cableway/ring.Held -/
def rs62 : List RV := [(.t 6)]
def c62_1 : IC := (.seq (.region [⟨some 23, .pu (.mov (.t 7)), none⟩, ⟨some 6, .pu (.mov (.t 23)), none⟩]) .ret)
def c62_3 : IC := (.block 1 (.region [⟨some 21, .pu (.mov (.t 7)), none⟩, ⟨some 22, .pu (.bin .add (.t 21) (.c (.i .i64 1))), none⟩, ⟨some 7, .pu (.mov (.t 22)), none⟩]))
def c62_4 : IC := (.cond (.t 20) .skip (.exit 0))
def o62_5 : List IOp := [⟨some 20, .pu (.pick (.t 12) (.t 19) (.c (.b false))), none⟩] ++ []
def o62_6 : List IOp := [⟨some 13, .pu (.mov (.t 0)), some (12, true)⟩, ⟨some 14, .ld true 2 (.t 4), some (12, true)⟩, ⟨some 15, .pu (.mov (.t 2)), some (12, true)⟩, ⟨some 16, .pu (.mov (.t 7)), some (12, true)⟩, ⟨some 17, .pu (.cvi .u64 (.t 16)), some (12, true)⟩, ⟨some 18, .pu (.bin .add (.t 15) (.t 17)), some (12, true)⟩, ⟨some 19, .ef (.call 107 [(.t 13), (.t 14), (.t 18)]), some (12, true)⟩] ++ o62_5
def o62_7 : List IOp := [⟨some 8, .pu (.mov (.t 7)), none⟩, ⟨some 9, .pu (.fa 1 (.t 4)), none⟩, ⟨some 10, .ld false 1 (.t 9), none⟩, ⟨some 11, .pu (.bin .lss (.t 8) (.t 10)), none⟩, ⟨some 12, .pu (.mov (.t 11)), none⟩] ++ o62_6
def c62_2 : IC := (.seq (.seq (.region o62_7) c62_4) c62_3)
def c62 : IC := (.seq (.region [⟨some 4, .al (.box (.t 1)), none⟩, ⟨some 6, .pu (.mov (.c (.i .i64 0))), none⟩]) (.seq (.region [⟨some 7, .pu (.mov (.c (.i .i64 0))), none⟩]) (.seq (.block 0 (.loop c62_2)) c62_1)))
def ir62 : IFn := ⟨24, rs62, c62⟩
/-! cableway/ring.May -/
def rs95 : List RV := [(.t 2)]
def o95_1 : List IOp := [⟨some 31, .pu (.pick (.t 24) (.t 30) (.c (.b false))), none⟩, ⟨some 2, .pu (.mov (.t 31)), none⟩] ++ []
def o95_2 : List IOp := [⟨some 25, .pu (.fa 0 (.t 1)), some (24, true)⟩, ⟨some 26, .ld false 1 (.t 25), some (24, true)⟩, ⟨some 27, .pu (.mov (.t 3)), some (24, true)⟩, ⟨some 28, .ef (.call 47 [(.t 27)]), some (24, true)⟩, ⟨some 29, .pu (.bin .sub (.c (.i .i64 16384)) (.t 28)), some (24, true)⟩, ⟨some 30, .pu (.bin .leq (.t 26) (.t 29)), some (24, true)⟩] ++ o95_1
def o95_3 : List IOp := [⟨some 23, .pu (.pick (.t 19) (.t 22) (.c (.b false))), none⟩, ⟨some 24, .pu (.mov (.t 23)), none⟩] ++ o95_2
def o95_4 : List IOp := [⟨some 20, .pu (.fa 0 (.t 1)), some (19, true)⟩, ⟨some 21, .ld false 1 (.t 20), some (19, true)⟩, ⟨some 22, .pu (.bin .geq (.t 21) (.c (.i .i64 0))), some (19, true)⟩] ++ o95_3
def o95_5 : List IOp := [⟨some 18, .pu (.pick (.t 12) (.t 17) (.c (.b false))), none⟩, ⟨some 19, .pu (.mov (.t 18)), none⟩] ++ o95_4
def o95_6 : List IOp := [⟨some 13, .pu (.mov (.t 3)), some (12, true)⟩, ⟨some 14, .pu (.mov (.t 3)), some (12, true)⟩, ⟨some 15, .pu (.bin .sub (.t 14) (.c (.i .i64 1))), some (12, true)⟩, ⟨some 16, .pu (.bin .and (.t 13) (.t 15)), some (12, true)⟩, ⟨some 17, .pu (.bin .eql (.t 16) (.c (.i .i64 0))), some (12, true)⟩] ++ o95_5
def o95_7 : List IOp := [⟨some 11, .pu (.pick (.t 8) (.t 10) (.c (.b false))), none⟩, ⟨some 12, .pu (.mov (.t 11)), none⟩] ++ o95_6
def o95_8 : List IOp := [⟨some 9, .pu (.mov (.t 3)), some (8, true)⟩, ⟨some 10, .pu (.bin .leq (.t 9) (.c (.i .i64 64))), some (8, true)⟩] ++ o95_7
def o95_9 : List IOp := [⟨some 6, .pu (.mov (.t 3)), none⟩, ⟨some 7, .pu (.bin .geq (.t 6) (.c (.i .i64 2))), none⟩, ⟨some 8, .pu (.mov (.t 7)), none⟩] ++ o95_8
def c95 : IC := (.seq (.region [⟨some 1, .al (.box (.t 0)), none⟩, ⟨some 2, .pu (.mov (.c (.b false))), none⟩]) (.seq (.region [⟨some 4, .pu (.fa 1 (.t 1)), none⟩, ⟨some 5, .ld false 1 (.t 4), none⟩, ⟨some 3, .pu (.mov (.t 5)), none⟩]) (.seq (.draw o95_9 [(20, 22)]) .ret)))
def ir95 : IFn := ⟨32, rs95, c95⟩
/-! (*cableway/arena.Arena).Len -/
def rs96 : List RV := [(.t 2)]
def c96 : IC := (.seq (.region [⟨some 2, .pu (.mov (.c (.i .i64 0))), none⟩]) (.seq (.seq (.region [⟨some 3, .pu (.mov (.t 0)), none⟩, ⟨some 4, .pu (.eqz false .p (.t 3) (.c (.p none))), none⟩]) (.cond (.t 4) (.seq (.region [⟨some 2, .pu (.mov (.c (.i .i64 0))), none⟩]) .ret) .skip)) (.seq (.region [⟨some 5, .pu (.mov (.t 0)), none⟩, ⟨some 6, .pu (.nilc (.t 5)), none⟩, ⟨some 7, .pu (.fa 0 (.t 6)), none⟩, ⟨some 8, .ld false 1 (.t 7), none⟩, ⟨some 9, .pu (.lens (.t 8)), none⟩, ⟨some 2, .pu (.mov (.t 9)), none⟩]) .ret)))
def ir96 : IFn := ⟨10, rs96, c96⟩
/-! (*cableway/arena.Arena).Write -/
def rs97 : List RV := []
def c97 : IC := (.seq (.region [⟨some 6, .pu (.mov (.t 0)), none⟩, ⟨some 7, .pu (.mov (.t 1)), none⟩, ⟨some 8, .ef (.call 133 [(.t 6), (.t 7)]), none⟩]) (.cond (.t 8) (.region [⟨some 9, .pu (.mov (.t 0)), none⟩, ⟨some 10, .pu (.nilc (.t 9)), none⟩, ⟨some 11, .pu (.fa 0 (.t 10)), none⟩, ⟨some 12, .ld false 1 (.t 11), none⟩, ⟨some 13, .pu (.mov (.t 1)), none⟩, ⟨some 14, .pu (.mov (.t 2)), none⟩, ⟨some 15, .pu (.ia 1 (.t 12) (.t 13)), none⟩, ⟨none, .ef (.store 1 (.t 15) (.t 14)), none⟩]) .skip))
def ir97 : IFn := ⟨16, rs97, c97⟩
/-! cableway/ring.place -/
def rs98 : List RV := [(.t 4)]
def c98 : IC := (.seq (.region [⟨some 2, .al (.box (.t 0)), none⟩, ⟨some 4, .pu (.mov (.c (.i .i64 0))), none⟩]) (.seq (.draw [⟨some 5, .pu (.fa 0 (.t 2)), none⟩, ⟨some 6, .ld false 1 (.t 5), none⟩, ⟨some 7, .pu (.bin .add (.t 6) (.c (.i .i64 1))), none⟩, ⟨some 8, .pu (.mov (.t 1)), none⟩, ⟨some 9, .pu (.fa 1 (.t 2)), none⟩, ⟨some 10, .ld false 1 (.t 9), none⟩, ⟨some 11, .pu (.cvi .u64 (.t 10)), none⟩, ⟨some 12, .pu (.bin .rem (.t 8) (.t 11)), none⟩, ⟨some 13, .pu (.cvi .i64 (.t 12)), none⟩, ⟨some 14, .pu (.bin .mul (.t 13) (.c (.i .i64 4))), none⟩, ⟨some 15, .pu (.bin .add (.t 7) (.t 14)), none⟩, ⟨some 4, .pu (.mov (.t 15)), none⟩] []) .ret))
def ir98 : IFn := ⟨16, rs98, c98⟩
/-! (*cableway/arena.Arena).Read -/
def rs99 : List RV := [(.t 4)]
def c99 : IC := (.seq (.region [⟨some 4, .pu (.mov (.c (.i .u64 0))), none⟩]) (.seq (.seq (.region [⟨some 5, .pu (.mov (.t 0)), none⟩, ⟨some 6, .pu (.mov (.t 1)), none⟩, ⟨some 7, .ef (.call 133 [(.t 5), (.t 6)]), none⟩, ⟨some 8, .pu (.un .not (.t 7)), none⟩]) (.cond (.t 8) (.seq (.region [⟨some 4, .pu (.mov (.c (.i .u64 0))), none⟩]) .ret) .skip)) (.seq (.region [⟨some 9, .pu (.mov (.t 0)), none⟩, ⟨some 10, .pu (.nilc (.t 9)), none⟩, ⟨some 11, .pu (.fa 0 (.t 10)), none⟩, ⟨some 12, .ld false 1 (.t 11), none⟩, ⟨some 13, .pu (.mov (.t 1)), none⟩, ⟨some 14, .pu (.ia 1 (.t 12) (.t 13)), none⟩, ⟨some 15, .ld false 1 (.t 14), none⟩, ⟨some 4, .pu (.mov (.t 15)), none⟩]) .ret)))
def ir99 : IFn := ⟨16, rs99, c99⟩
/-! cableway/ring.Tail -/
def rs100 : List RV := [(.t 2)]
def c100 : IC := (.seq (.region [⟨some 1, .al (.box (.t 0)), none⟩, ⟨some 2, .pu (.mov (.c (.i .i64 0))), none⟩]) (.seq (.seq (.region [⟨some 3, .ld true 2 (.t 1), none⟩, ⟨some 4, .ef (.call 95 [(.t 3)]), none⟩, ⟨some 5, .pu (.un .not (.t 4)), none⟩]) (.cond (.t 5) (.seq (.region [⟨some 2, .pu (.mov (.c (.i .i64 (-1)))), none⟩]) .ret) .skip)) (.seq (.region [⟨some 6, .pu (.fa 0 (.t 1)), none⟩, ⟨some 7, .ld false 1 (.t 6), none⟩, ⟨some 2, .pu (.mov (.t 7)), none⟩]) .ret)))
def ir100 : IFn := ⟨8, rs100, c100⟩
/-! (cableway/send.Task).stands -/
def rs101 : List RV := [(.c 4 true 9)]
def c101_1 : IC := (.seq (.region [⟨some 32, .ld true 9 (.t 2), none⟩, ⟨none, .ef (.store 9 (.t 4) (.t 32)), none⟩]) .ret)
def c101_3 : IC := (.cond (.t 22) (.region [⟨some 31, .pu (.fa 8 (.t 2)), none⟩, ⟨none, .ef (.store 1 (.t 31) (.c (.b true))), none⟩]) (.region [⟨some 5, .pu (.fa 6 (.t 2)), none⟩, ⟨none, .ef (.store 1 (.t 5) (.c (.i .i64 0))), none⟩]))
def o101_4 : List IOp := [⟨some 30, .pu (.pick (.t 27) (.c (.b true)) (.t 29)), none⟩, ⟨some 22, .pu (.mov (.t 30)), none⟩] ++ []
def o101_5 : List IOp := [⟨some 28, .pu (.fa 7 (.t 2)), some (27, false)⟩, ⟨some 29, .ld false 1 (.t 28), some (27, false)⟩] ++ o101_4
def o101_6 : List IOp := [⟨some 23, .pu (.mov (.t 1)), none⟩, ⟨some 24, .pu (.fa 5 (.t 2)), none⟩, ⟨some 25, .ld false 1 (.t 24), none⟩, ⟨some 26, .pu (.bin .lss (.t 23) (.t 25)), none⟩, ⟨some 27, .pu (.mov (.t 26)), none⟩] ++ o101_5
def c101_2 : IC := (.cond (.t 6) (.region [⟨some 15, .pu (.fa 6 (.t 2)), none⟩, ⟨none, .ef (.store 1 (.t 15) (.c (.i .i64 3))), none⟩]) (.seq (.region [⟨some 17, .pu (.mov (.t 1)), none⟩, ⟨some 18, .pu (.fa 5 (.t 2)), none⟩, ⟨some 19, .ld false 1 (.t 18), none⟩, ⟨some 20, .pu (.bin .eql (.t 17) (.t 19)), none⟩, ⟨some 16, .pu (.mov (.t 20)), none⟩]) (.cond (.t 16) (.region [⟨some 21, .pu (.fa 6 (.t 2)), none⟩, ⟨none, .ef (.store 1 (.t 21) (.c (.i .i64 2))), none⟩]) (.seq (.region o101_6) c101_3))))
def o101_8 : List IOp := [⟨some 14, .pu (.pick (.t 11) (.t 13) (.c (.b false))), none⟩, ⟨some 6, .pu (.mov (.t 14)), none⟩] ++ []
def o101_9 : List IOp := [⟨some 12, .pu (.fa 7 (.t 2)), some (11, true)⟩, ⟨some 13, .ld false 1 (.t 12), some (11, true)⟩] ++ o101_8
def o101_10 : List IOp := [⟨some 7, .pu (.mov (.t 1)), none⟩, ⟨some 8, .pu (.fa 5 (.t 2)), none⟩, ⟨some 9, .ld false 1 (.t 8), none⟩, ⟨some 10, .pu (.bin .eql (.t 7) (.t 9)), none⟩, ⟨some 11, .pu (.mov (.t 10)), none⟩] ++ o101_9
def c101 : IC := (.seq (.region [⟨some 2, .al (.box (.t 0)), none⟩, ⟨some 4, .al (.zero [(.i .i64 0), (.i .i64 0), (.i .u64 0), (.i .u64 0), (.i .u64 0), (.i .u64 0), (.i .i64 0), (.b false), (.b false)]), none⟩]) (.seq (.block 0 (.seq (.region o101_10) c101_2)) c101_1))
def ir101 : IFn := ⟨33, rs101, c101⟩
/-! cableway/ring.Stand -/
def rs102 : List RV := [(.t 4)]
def c102 : IC := (.seq (.region [⟨some 2, .al (.box (.t 0)), none⟩, ⟨some 4, .pu (.mov (.c (.i .i64 0))), none⟩]) (.seq (.seq (.region [⟨some 5, .ld true 2 (.t 2), none⟩, ⟨some 6, .ef (.call 95 [(.t 5)]), none⟩, ⟨some 7, .pu (.un .not (.t 6)), none⟩]) (.cond (.t 7) (.seq (.region [⟨some 4, .pu (.mov (.c (.i .i64 (-1)))), none⟩]) .ret) .skip)) (.seq (.region [⟨some 8, .ld true 2 (.t 2), none⟩, ⟨some 9, .pu (.mov (.t 1)), none⟩, ⟨some 10, .ef (.call 98 [(.t 8), (.t 9)]), none⟩, ⟨some 4, .pu (.mov (.t 10)), none⟩]) .ret)))
def ir102 : IFn := ⟨11, rs102, c102⟩
/-! (*cableway/arena.Arena).Swap -/
def rs103 : List RV := [(.t 8)]
def c103_1 : IC := (.seq (.region [⟨some 24, .pu (.mov (.t 0)), none⟩, ⟨some 25, .pu (.nilc (.t 24)), none⟩, ⟨some 26, .pu (.fa 0 (.t 25)), none⟩, ⟨some 27, .ld false 1 (.t 26), none⟩, ⟨some 28, .pu (.mov (.t 1)), none⟩, ⟨some 29, .pu (.mov (.t 3)), none⟩, ⟨some 30, .pu (.ia 1 (.t 27) (.t 28)), none⟩, ⟨none, .ef (.store 1 (.t 30) (.t 29)), none⟩]) (.seq (.region [⟨some 8, .pu (.mov (.c (.b true))), none⟩]) .ret))
def c103_2 : IC := (.cond (.t 23) (.seq (.region [⟨some 8, .pu (.mov (.c (.b false))), none⟩]) .ret) .skip)
def o103_3 : List IOp := [⟨some 23, .pu (.pick (.t 13) (.c (.b true)) (.t 22)), none⟩] ++ []
def o103_4 : List IOp := [⟨some 14, .pu (.mov (.t 0)), some (13, false)⟩, ⟨some 15, .pu (.nilc (.t 14)), some (13, false)⟩, ⟨some 16, .pu (.fa 0 (.t 15)), some (13, false)⟩, ⟨some 17, .ld false 1 (.t 16), some (13, false)⟩, ⟨some 18, .pu (.mov (.t 1)), some (13, false)⟩, ⟨some 19, .pu (.ia 1 (.t 17) (.t 18)), some (13, false)⟩, ⟨some 20, .ld false 1 (.t 19), some (13, false)⟩, ⟨some 21, .pu (.mov (.t 2)), some (13, false)⟩, ⟨some 22, .pu (.bin .neq (.t 20) (.t 21)), some (13, false)⟩] ++ o103_3
def o103_5 : List IOp := [⟨some 9, .pu (.mov (.t 0)), none⟩, ⟨some 10, .pu (.mov (.t 1)), none⟩, ⟨some 11, .ef (.call 133 [(.t 9), (.t 10)]), none⟩, ⟨some 12, .pu (.un .not (.t 11)), none⟩, ⟨some 13, .pu (.mov (.t 12)), none⟩] ++ o103_4
def c103 : IC := (.seq (.region [⟨some 8, .pu (.mov (.c (.b false))), none⟩]) (.seq (.seq (.region o103_5) c103_2) c103_1))
def ir103 : IFn := ⟨31, rs103, c103⟩
/-! cableway/ring.Data -/
def rs104 : List RV := [(.t 6)]
def c104_1 : IC := (.seq (.region [⟨some 18, .ld true 2 (.t 3), none⟩, ⟨some 19, .pu (.mov (.t 1)), none⟩, ⟨some 20, .ef (.call 98 [(.t 18), (.t 19)]), none⟩, ⟨some 21, .pu (.bin .add (.t 20) (.c (.i .i64 1))), none⟩, ⟨some 22, .pu (.mov (.t 2)), none⟩, ⟨some 23, .pu (.bin .add (.t 21) (.t 22)), none⟩, ⟨some 6, .pu (.mov (.t 23)), none⟩]) .ret)
def c104_2 : IC := (.cond (.t 17) (.seq (.region [⟨some 6, .pu (.mov (.c (.i .i64 (-1)))), none⟩]) .ret) .skip)
def o104_3 : List IOp := [⟨some 17, .pu (.pick (.t 14) (.c (.b true)) (.t 16)), none⟩] ++ []
def o104_4 : List IOp := [⟨some 15, .pu (.mov (.t 2)), some (14, false)⟩, ⟨some 16, .pu (.bin .geq (.t 15) (.c (.i .i64 3))), some (14, false)⟩] ++ o104_3
def o104_5 : List IOp := [⟨some 13, .pu (.pick (.t 10) (.c (.b true)) (.t 12)), none⟩, ⟨some 14, .pu (.mov (.t 13)), none⟩] ++ o104_4
def o104_6 : List IOp := [⟨some 11, .pu (.mov (.t 2)), some (10, false)⟩, ⟨some 12, .pu (.bin .lss (.t 11) (.c (.i .i64 0))), some (10, false)⟩] ++ o104_5
def o104_7 : List IOp := [⟨some 7, .ld true 2 (.t 3), none⟩, ⟨some 8, .ef (.call 95 [(.t 7)]), none⟩, ⟨some 9, .pu (.un .not (.t 8)), none⟩, ⟨some 10, .pu (.mov (.t 9)), none⟩] ++ o104_6
def c104 : IC := (.seq (.region [⟨some 3, .al (.box (.t 0)), none⟩, ⟨some 6, .pu (.mov (.c (.i .i64 0))), none⟩]) (.seq (.seq (.region o104_7) c104_2) c104_1))
def ir104 : IFn := ⟨24, rs104, c104⟩
/-! slices.Clone[[]int,int] -/
def rs105 : List RV := [(.t 2)]
def c105 : IC := (.seq (.region [⟨some 2, .pu (.mov (.c .nsl)), none⟩]) (.seq (.seq (.region [⟨some 3, .pu (.mov (.t 0)), none⟩, ⟨some 4, .pu (.eqz false .s (.t 3) (.c .nsl)), none⟩]) (.cond (.t 4) (.seq (.region [⟨some 2, .pu (.mov (.c .nsl)), none⟩]) .ret) .skip)) (.seq (.region [⟨some 5, .al (.sl 0 [] []), none⟩, ⟨some 6, .pu (.mov (.t 0)), none⟩, ⟨some 7, .ef (.app 1 8 (.t 5) (.t 6)), none⟩, ⟨some 2, .pu (.mov (.t 7)), none⟩]) .ret)))
def ir105 : IFn := ⟨8, rs105, c105⟩
/-! cableway/ring.Open -/
def rs106 : List RV := [(.t 6)]
def o106_1 : List IOp := [⟨some 17, .pu (.pick (.t 9) (.t 16) (.c (.b false))), none⟩, ⟨some 6, .pu (.mov (.t 17)), none⟩] ++ []
def o106_2 : List IOp := [⟨some 10, .pu (.mov (.t 0)), some (9, true)⟩, ⟨some 11, .ld true 2 (.t 4), some (9, true)⟩, ⟨some 12, .pu (.mov (.t 2)), some (9, true)⟩, ⟨some 13, .ef (.call 98 [(.t 11), (.t 12)]), some (9, true)⟩, ⟨some 14, .ef (.call 134 [(.t 10), (.t 13)]), some (9, true)⟩, ⟨some 15, .pu (.mov (.t 2)), some (9, true)⟩, ⟨some 16, .pu (.bin .eql (.t 14) (.t 15)), some (9, true)⟩] ++ o106_1
def o106_3 : List IOp := [⟨some 7, .ld true 2 (.t 4), none⟩, ⟨some 8, .ef (.call 95 [(.t 7)]), none⟩, ⟨some 9, .pu (.mov (.t 8)), none⟩] ++ o106_2
def c106 : IC := (.seq (.region [⟨some 4, .al (.box (.t 1)), none⟩, ⟨some 6, .pu (.mov (.c (.b false))), none⟩]) (.seq (.region o106_3) .ret))
def ir106 : IFn := ⟨18, rs106, c106⟩
/-! cableway/ring.Ready -/
def rs107 : List RV := [(.t 6)]
def o107_1 : List IOp := [⟨some 18, .pu (.pick (.t 9) (.t 17) (.c (.b false))), none⟩, ⟨some 6, .pu (.mov (.t 18)), none⟩] ++ []
def o107_2 : List IOp := [⟨some 10, .pu (.mov (.t 0)), some (9, true)⟩, ⟨some 11, .ld true 2 (.t 4), some (9, true)⟩, ⟨some 12, .pu (.mov (.t 2)), some (9, true)⟩, ⟨some 13, .ef (.call 98 [(.t 11), (.t 12)]), some (9, true)⟩, ⟨some 14, .ef (.call 134 [(.t 10), (.t 13)]), some (9, true)⟩, ⟨some 15, .pu (.mov (.t 2)), some (9, true)⟩, ⟨some 16, .pu (.bin .add (.t 15) (.c (.i .u64 1))), some (9, true)⟩, ⟨some 17, .pu (.bin .eql (.t 14) (.t 16)), some (9, true)⟩] ++ o107_1
def o107_3 : List IOp := [⟨some 7, .ld true 2 (.t 4), none⟩, ⟨some 8, .ef (.call 95 [(.t 7)]), none⟩, ⟨some 9, .pu (.mov (.t 8)), none⟩] ++ o107_2
def c107 : IC := (.seq (.region [⟨some 4, .al (.box (.t 1)), none⟩, ⟨some 6, .pu (.mov (.c (.b false))), none⟩]) (.seq (.region o107_3) .ret))
def ir107 : IFn := ⟨19, rs107, c107⟩
/-! (*cableway/arena.Arena).touch -/
def rs133 : List RV := [(.t 4)]
def c133_2 : IC := (.seq (.region [⟨some 4, .pu (.mov (.c (.b true))), none⟩]) .ret)
def c133_1 : IC := (.seq (.seq (.region [⟨some 25, .pu (.mov (.t 0)), none⟩, ⟨some 26, .pu (.nilc (.t 25)), none⟩, ⟨some 27, .pu (.fa 1 (.t 26)), none⟩, ⟨some 28, .ld false 1 (.t 27), none⟩, ⟨some 29, .pu (.mov (.t 1)), none⟩, ⟨some 30, .ef (.call 156 [(.t 28), (.t 29)]), none⟩, ⟨some 31, .pu (.un .not (.t 30)), none⟩]) (.cond (.t 31) (.region [⟨some 32, .pu (.mov (.t 0)), none⟩, ⟨some 33, .pu (.mov (.t 0)), none⟩, ⟨some 34, .pu (.nilc (.t 33)), none⟩, ⟨some 35, .pu (.fa 1 (.t 34)), none⟩, ⟨some 36, .ld false 1 (.t 35), none⟩, ⟨some 37, .pu (.mov (.t 1)), none⟩, ⟨some 38, .al (.sl 1 [(.i .i64 0)] [(0, 1, (.t 37))]), none⟩, ⟨some 39, .ef (.app 1 8 (.t 36) (.t 38)), none⟩, ⟨some 40, .pu (.nilc (.t 32)), none⟩, ⟨some 41, .pu (.fa 1 (.t 40)), none⟩, ⟨none, .ef (.store 1 (.t 41) (.t 39)), none⟩]) .skip)) c133_2)
def c133_3 : IC := (.cond (.t 17) (.seq (.region [⟨some 18, .pu (.mov (.t 0)), none⟩, ⟨some 19, .pu (.nilc (.t 18)), none⟩, ⟨some 20, .pu (.fa 2 (.t 19)), none⟩, ⟨some 21, .ld false 1 (.t 20), none⟩, ⟨some 22, .pu (.bin .add (.t 21) (.c (.i .i64 1))), none⟩, ⟨some 23, .pu (.nilc (.t 18)), none⟩, ⟨some 24, .pu (.fa 2 (.t 23)), none⟩, ⟨none, .ef (.store 1 (.t 24) (.t 22)), none⟩]) (.seq (.region [⟨some 4, .pu (.mov (.c (.b false))), none⟩]) .ret)) .skip)
def o133_4 : List IOp := [⟨some 17, .pu (.pick (.t 9) (.c (.b true)) (.t 16)), none⟩] ++ []
def o133_5 : List IOp := [⟨some 10, .pu (.mov (.t 1)), some (9, false)⟩, ⟨some 11, .pu (.mov (.t 0)), some (9, false)⟩, ⟨some 12, .pu (.nilc (.t 11)), some (9, false)⟩, ⟨some 13, .pu (.fa 0 (.t 12)), some (9, false)⟩, ⟨some 14, .ld false 1 (.t 13), some (9, false)⟩, ⟨some 15, .pu (.lens (.t 14)), some (9, false)⟩, ⟨some 16, .pu (.bin .geq (.t 10) (.t 15)), some (9, false)⟩] ++ o133_4
def o133_6 : List IOp := [⟨some 7, .pu (.mov (.t 1)), none⟩, ⟨some 8, .pu (.bin .lss (.t 7) (.c (.i .i64 0))), none⟩, ⟨some 9, .pu (.mov (.t 8)), none⟩] ++ o133_5
def c133 : IC := (.seq (.region [⟨some 4, .pu (.mov (.c (.b false))), none⟩]) (.seq (.seq (.region [⟨some 5, .pu (.mov (.t 0)), none⟩, ⟨some 6, .pu (.eqz false .p (.t 5) (.c (.p none))), none⟩]) (.cond (.t 6) (.seq (.region [⟨some 4, .pu (.mov (.c (.b false))), none⟩]) .ret) .skip)) (.seq (.seq (.region o133_6) c133_3) c133_1)))
def ir133 : IFn := ⟨42, rs133, c133⟩
/-! (*cableway/arena.Arena).Look -/
def rs134 : List RV := [(.t 4)]
def c134_1 : IC := (.seq (.region [⟨some 13, .pu (.mov (.t 0)), none⟩, ⟨some 14, .pu (.nilc (.t 13)), none⟩, ⟨some 15, .pu (.fa 0 (.t 14)), none⟩, ⟨some 16, .ld false 1 (.t 15), none⟩, ⟨some 17, .pu (.mov (.t 1)), none⟩, ⟨some 18, .pu (.ia 1 (.t 16) (.t 17)), none⟩, ⟨some 19, .ld false 1 (.t 18), none⟩, ⟨some 4, .pu (.mov (.t 19)), none⟩]) .ret)
def c134_2 : IC := (.cond (.t 12) (.seq (.region [⟨some 4, .pu (.mov (.c (.i .u64 0))), none⟩]) .ret) .skip)
def o134_3 : List IOp := [⟨some 12, .pu (.pick (.t 7) (.c (.b true)) (.t 11)), none⟩] ++ []
def o134_4 : List IOp := [⟨some 8, .pu (.mov (.t 1)), some (7, false)⟩, ⟨some 9, .pu (.mov (.t 0)), some (7, false)⟩, ⟨some 10, .ef (.call 96 [(.t 9)]), some (7, false)⟩, ⟨some 11, .pu (.bin .geq (.t 8) (.t 10)), some (7, false)⟩] ++ o134_3
def o134_5 : List IOp := [⟨some 5, .pu (.mov (.t 1)), none⟩, ⟨some 6, .pu (.bin .lss (.t 5) (.c (.i .i64 0))), none⟩, ⟨some 7, .pu (.mov (.t 6)), none⟩] ++ o134_4
def c134 : IC := (.seq (.region [⟨some 4, .pu (.mov (.c (.i .u64 0))), none⟩]) (.seq (.seq (.region o134_5) c134_2) c134_1))
def ir134 : IFn := ⟨20, rs134, c134⟩
/-! slices.Contains[[]int,int] -/
def rs156 : List RV := [(.t 4)]
def c156 : IC := (.seq (.region [⟨some 4, .pu (.mov (.c (.b false))), none⟩]) (.seq (.region [⟨some 5, .pu (.mov (.t 0)), none⟩, ⟨some 6, .pu (.mov (.t 1)), none⟩, ⟨some 7, .ef (.call 161 [(.t 5), (.t 6)]), none⟩, ⟨some 8, .pu (.bin .geq (.t 7) (.c (.i .i64 0))), none⟩, ⟨some 4, .pu (.mov (.t 8)), none⟩]) .ret))
def ir156 : IFn := ⟨9, rs156, c156⟩
/-! slices.Index[[]int,int] -/
def rs161 : List RV := [(.t 4)]
def c161_1 : IC := (.seq (.region [⟨some 4, .pu (.mov (.c (.i .i64 (-1)))), none⟩]) .ret)
def c161_2 : IC := (.seq (.region [⟨some 9, .pu (.bin .lss (.t 8) (.t 7)), none⟩]) (.seq (.cond (.t 9) .skip (.exit 0)) (.seq (.block 1 (.seq (.region [⟨some 10, .pu (.mov (.t 8)), none⟩, ⟨some 5, .pu (.mov (.t 10)), none⟩]) (.seq (.region [⟨some 11, .pu (.mov (.t 1)), none⟩, ⟨some 12, .pu (.mov (.t 0)), none⟩, ⟨some 13, .pu (.mov (.t 5)), none⟩, ⟨some 14, .pu (.ia 1 (.t 12) (.t 13)), none⟩, ⟨some 15, .ld false 1 (.t 14), none⟩, ⟨some 16, .pu (.bin .eql (.t 11) (.t 15)), none⟩]) (.cond (.t 16) (.seq (.region [⟨some 17, .pu (.mov (.t 5)), none⟩, ⟨some 4, .pu (.mov (.t 17)), none⟩]) .ret) .skip)))) (.region [⟨some 18, .pu (.bin .add (.t 8) (.c (.i .i64 1))), none⟩, ⟨some 8, .pu (.mov (.t 18)), none⟩]))))
def c161 : IC := (.seq (.region [⟨some 4, .pu (.mov (.c (.i .i64 0))), none⟩]) (.seq (.seq (.region [⟨some 6, .pu (.mov (.t 0)), none⟩, ⟨some 7, .pu (.lens (.t 6)), none⟩, ⟨some 8, .pu (.mov (.c (.i .i64 0))), none⟩]) (.block 0 (.loop c161_2))) c161_1))
def ir161 : IFn := ⟨19, rs161, c161⟩
def tree : Tr IFn := (.n (.n (.n (.n (.n (.n .l none (.n .l (some ir95) .l)) none (.n .l (some ir47) .l)) none (.n (.n .l none (.n .l (some ir103) .l)) none (.n .l (some ir55) .l))) none (.n (.n (.n .l none (.n .l (some ir99) .l)) none (.n .l (some ir51) .l)) (some ir11) (.n (.n .l none (.n .l (some ir107) .l)) none (.n .l (some ir59) .l)))) none (.n (.n (.n (.n .l none (.n (.n .l (some ir161) .l) (some ir97) .l)) none (.n .l (some ir49) .l)) none (.n (.n .l none (.n .l (some ir105) .l)) none (.n .l (some ir57) .l))) none (.n (.n (.n (.n (.n .l (some ir133) .l) none .l) none (.n .l (some ir101) .l)) none (.n .l (some ir53) .l)) none (.n .l none (.n .l (some ir61) .l))))) none (.n (.n (.n (.n (.n .l none (.n .l (some ir96) .l)) none (.n .l (some ir48) .l)) none (.n (.n .l none (.n .l (some ir104) .l)) none (.n .l (some ir56) .l))) none (.n (.n (.n .l none (.n .l (some ir100) .l)) none (.n .l (some ir52) .l)) none (.n .l none (.n (.n (.n .l (some ir156) .l) none .l) (some ir60) .l)))) none (.n (.n (.n (.n .l none (.n .l (some ir98) .l)) none (.n .l (some ir50) .l)) none (.n (.n .l none (.n .l (some ir106) .l)) none (.n .l (some ir58) .l))) none (.n (.n (.n (.n (.n .l (some ir134) .l) none .l) none (.n .l (some ir102) .l)) none (.n .l (some ir54) .l)) none (.n (.n .l (some ir46) .l) none (.n .l (some ir62) .l))))))
def IP (f : Nat) : Option IFn := tree.get f
theorem ok11 : ∃ fn, Try.prog.funcs[11]? = some fn ∧ trFn Try.prog 0 fn = some ir11 := ⟨_, Try.func11, by kernel_rfl⟩
theorem ok46 : ∃ fn, Try.prog.funcs[46]? = some fn ∧ trFn Try.prog 0 fn = some ir46 := ⟨_, Try.func46, by kernel_rfl⟩
theorem ok47 : ∃ fn, Try.prog.funcs[47]? = some fn ∧ trFn Try.prog 0 fn = some ir47 := ⟨_, Try.func47, by kernel_rfl⟩
theorem ok48 : ∃ fn, Try.prog.funcs[48]? = some fn ∧ trFn Try.prog 0 fn = some ir48 := ⟨_, Try.func48, by kernel_rfl⟩
theorem ok49 : ∃ fn, Try.prog.funcs[49]? = some fn ∧ trFn Try.prog 0 fn = some ir49 := ⟨_, Try.func49, by kernel_rfl⟩
theorem ok50 : ∃ fn, Try.prog.funcs[50]? = some fn ∧ trFn Try.prog 0 fn = some ir50 := ⟨_, Try.func50, by kernel_rfl⟩
theorem ok51 : ∃ fn, Try.prog.funcs[51]? = some fn ∧ trFn Try.prog 0 fn = some ir51 := ⟨_, Try.func51, by kernel_rfl⟩
theorem ok52 : ∃ fn, Try.prog.funcs[52]? = some fn ∧ trFn Try.prog 0 fn = some ir52 := ⟨_, Try.func52, by kernel_rfl⟩
theorem ok53 : ∃ fn, Try.prog.funcs[53]? = some fn ∧ trFn Try.prog 0 fn = some ir53 := ⟨_, Try.func53, by kernel_rfl⟩
theorem ok54 : ∃ fn, Try.prog.funcs[54]? = some fn ∧ trFn Try.prog 0 fn = some ir54 := ⟨_, Try.func54, by kernel_rfl⟩
theorem ok55 : ∃ fn, Try.prog.funcs[55]? = some fn ∧ trFn Try.prog 0 fn = some ir55 := ⟨_, Try.func55, by kernel_rfl⟩
theorem ok56 : ∃ fn, Try.prog.funcs[56]? = some fn ∧ trFn Try.prog 0 fn = some ir56 := ⟨_, Try.func56, by kernel_rfl⟩
theorem ok57 : ∃ fn, Try.prog.funcs[57]? = some fn ∧ trFn Try.prog 0 fn = some ir57 := ⟨_, Try.func57, by kernel_rfl⟩
theorem ok58 : ∃ fn, Try.prog.funcs[58]? = some fn ∧ trFn Try.prog 0 fn = some ir58 := ⟨_, Try.func58, by kernel_rfl⟩
theorem ok59 : ∃ fn, Try.prog.funcs[59]? = some fn ∧ trFn Try.prog 0 fn = some ir59 := ⟨_, Try.func59, by kernel_rfl⟩
theorem ok60 : ∃ fn, Try.prog.funcs[60]? = some fn ∧ trFn Try.prog 0 fn = some ir60 := ⟨_, Try.func60, by kernel_rfl⟩
theorem ok61 : ∃ fn, Try.prog.funcs[61]? = some fn ∧ trFn Try.prog 0 fn = some ir61 := ⟨_, Try.func61, by kernel_rfl⟩
theorem ok62 : ∃ fn, Try.prog.funcs[62]? = some fn ∧ trFn Try.prog 0 fn = some ir62 := ⟨_, Try.func62, by kernel_rfl⟩
theorem ok95 : ∃ fn, Try.prog.funcs[95]? = some fn ∧ trFn Try.prog 0 fn = some ir95 := ⟨_, Try.func95, by kernel_rfl⟩
theorem ok96 : ∃ fn, Try.prog.funcs[96]? = some fn ∧ trFn Try.prog 0 fn = some ir96 := ⟨_, Try.func96, by kernel_rfl⟩
theorem ok97 : ∃ fn, Try.prog.funcs[97]? = some fn ∧ trFn Try.prog 0 fn = some ir97 := ⟨_, Try.func97, by kernel_rfl⟩
theorem ok98 : ∃ fn, Try.prog.funcs[98]? = some fn ∧ trFn Try.prog 0 fn = some ir98 := ⟨_, Try.func98, by kernel_rfl⟩
theorem ok99 : ∃ fn, Try.prog.funcs[99]? = some fn ∧ trFn Try.prog 0 fn = some ir99 := ⟨_, Try.func99, by kernel_rfl⟩
theorem ok100 : ∃ fn, Try.prog.funcs[100]? = some fn ∧ trFn Try.prog 0 fn = some ir100 := ⟨_, Try.func100, by kernel_rfl⟩
theorem ok101 : ∃ fn, Try.prog.funcs[101]? = some fn ∧ trFn Try.prog 0 fn = some ir101 := ⟨_, Try.func101, by kernel_rfl⟩
theorem ok102 : ∃ fn, Try.prog.funcs[102]? = some fn ∧ trFn Try.prog 0 fn = some ir102 := ⟨_, Try.func102, by kernel_rfl⟩
theorem ok103 : ∃ fn, Try.prog.funcs[103]? = some fn ∧ trFn Try.prog 0 fn = some ir103 := ⟨_, Try.func103, by kernel_rfl⟩
theorem ok104 : ∃ fn, Try.prog.funcs[104]? = some fn ∧ trFn Try.prog 0 fn = some ir104 := ⟨_, Try.func104, by kernel_rfl⟩
theorem ok105 : ∃ fn, Try.prog.funcs[105]? = some fn ∧ trFn Try.prog 0 fn = some ir105 := ⟨_, Try.func105, by kernel_rfl⟩
theorem ok106 : ∃ fn, Try.prog.funcs[106]? = some fn ∧ trFn Try.prog 0 fn = some ir106 := ⟨_, Try.func106, by kernel_rfl⟩
theorem ok107 : ∃ fn, Try.prog.funcs[107]? = some fn ∧ trFn Try.prog 0 fn = some ir107 := ⟨_, Try.func107, by kernel_rfl⟩
theorem ok133 : ∃ fn, Try.prog.funcs[133]? = some fn ∧ trFn Try.prog 0 fn = some ir133 := ⟨_, Try.func133, by kernel_rfl⟩
theorem ok134 : ∃ fn, Try.prog.funcs[134]? = some fn ∧ trFn Try.prog 0 fn = some ir134 := ⟨_, Try.func134, by kernel_rfl⟩
theorem ok156 : ∃ fn, Try.prog.funcs[156]? = some fn ∧ trFn Try.prog 0 fn = some ir156 := ⟨_, Try.func156, by kernel_rfl⟩
theorem ok161 : ∃ fn, Try.prog.funcs[161]? = some fn ∧ trFn Try.prog 0 fn = some ir161 := ⟨_, Try.func161, by kernel_rfl⟩
theorem all : tree.All (fun f ir => ∃ fn, Try.prog.funcs[f]? = some fn ∧ trFn Try.prog 0 fn = some ir) 1 0 :=
  ⟨(fun _ h => by cases h), ⟨(fun _ h => by cases h), ⟨(fun _ h => by cases h), ⟨(fun _ h => by cases h), ⟨(fun _ h => by cases h), ⟨(fun _ h => by cases h), trivial, ⟨(fun _ h => by cases h; exact ok95), trivial, trivial⟩⟩, ⟨(fun _ h => by cases h; exact ok47), trivial, trivial⟩⟩, ⟨(fun _ h => by cases h), ⟨(fun _ h => by cases h), trivial, ⟨(fun _ h => by cases h; exact ok103), trivial, trivial⟩⟩, ⟨(fun _ h => by cases h; exact ok55), trivial, trivial⟩⟩⟩, ⟨(fun _ h => by cases h; exact ok11), ⟨(fun _ h => by cases h), ⟨(fun _ h => by cases h), trivial, ⟨(fun _ h => by cases h; exact ok99), trivial, trivial⟩⟩, ⟨(fun _ h => by cases h; exact ok51), trivial, trivial⟩⟩, ⟨(fun _ h => by cases h), ⟨(fun _ h => by cases h), trivial, ⟨(fun _ h => by cases h; exact ok107), trivial, trivial⟩⟩, ⟨(fun _ h => by cases h; exact ok59), trivial, trivial⟩⟩⟩⟩, ⟨(fun _ h => by cases h), ⟨(fun _ h => by cases h), ⟨(fun _ h => by cases h), ⟨(fun _ h => by cases h), trivial, ⟨(fun _ h => by cases h; exact ok97), ⟨(fun _ h => by cases h; exact ok161), trivial, trivial⟩, trivial⟩⟩, ⟨(fun _ h => by cases h; exact ok49), trivial, trivial⟩⟩, ⟨(fun _ h => by cases h), ⟨(fun _ h => by cases h), trivial, ⟨(fun _ h => by cases h; exact ok105), trivial, trivial⟩⟩, ⟨(fun _ h => by cases h; exact ok57), trivial, trivial⟩⟩⟩, ⟨(fun _ h => by cases h), ⟨(fun _ h => by cases h), ⟨(fun _ h => by cases h), ⟨(fun _ h => by cases h), ⟨(fun _ h => by cases h; exact ok133), trivial, trivial⟩, trivial⟩, ⟨(fun _ h => by cases h; exact ok101), trivial, trivial⟩⟩, ⟨(fun _ h => by cases h; exact ok53), trivial, trivial⟩⟩, ⟨(fun _ h => by cases h), trivial, ⟨(fun _ h => by cases h; exact ok61), trivial, trivial⟩⟩⟩⟩⟩, ⟨(fun _ h => by cases h), ⟨(fun _ h => by cases h), ⟨(fun _ h => by cases h), ⟨(fun _ h => by cases h), ⟨(fun _ h => by cases h), trivial, ⟨(fun _ h => by cases h; exact ok96), trivial, trivial⟩⟩, ⟨(fun _ h => by cases h; exact ok48), trivial, trivial⟩⟩, ⟨(fun _ h => by cases h), ⟨(fun _ h => by cases h), trivial, ⟨(fun _ h => by cases h; exact ok104), trivial, trivial⟩⟩, ⟨(fun _ h => by cases h; exact ok56), trivial, trivial⟩⟩⟩, ⟨(fun _ h => by cases h), ⟨(fun _ h => by cases h), ⟨(fun _ h => by cases h), trivial, ⟨(fun _ h => by cases h; exact ok100), trivial, trivial⟩⟩, ⟨(fun _ h => by cases h; exact ok52), trivial, trivial⟩⟩, ⟨(fun _ h => by cases h), trivial, ⟨(fun _ h => by cases h; exact ok60), ⟨(fun _ h => by cases h), ⟨(fun _ h => by cases h; exact ok156), trivial, trivial⟩, trivial⟩, trivial⟩⟩⟩⟩, ⟨(fun _ h => by cases h), ⟨(fun _ h => by cases h), ⟨(fun _ h => by cases h), ⟨(fun _ h => by cases h), trivial, ⟨(fun _ h => by cases h; exact ok98), trivial, trivial⟩⟩, ⟨(fun _ h => by cases h; exact ok50), trivial, trivial⟩⟩, ⟨(fun _ h => by cases h), ⟨(fun _ h => by cases h), trivial, ⟨(fun _ h => by cases h; exact ok106), trivial, trivial⟩⟩, ⟨(fun _ h => by cases h; exact ok58), trivial, trivial⟩⟩⟩, ⟨(fun _ h => by cases h), ⟨(fun _ h => by cases h), ⟨(fun _ h => by cases h), ⟨(fun _ h => by cases h), ⟨(fun _ h => by cases h; exact ok134), trivial, trivial⟩, trivial⟩, ⟨(fun _ h => by cases h; exact ok102), trivial, trivial⟩⟩, ⟨(fun _ h => by cases h; exact ok54), trivial, trivial⟩⟩, ⟨(fun _ h => by cases h), ⟨(fun _ h => by cases h; exact ok46), trivial, trivial⟩, ⟨(fun _ h => by cases h; exact ok62), trivial, trivial⟩⟩⟩⟩⟩⟩
theorem bare : AllBare IP := allBare tree (by kernel_rfl)
theorem prog : ProgOK Try.prog 0 IP := progOK_of_tree (by kernel_rfl) all
theorem ip11 : IP 11 = some ir11 := rfl
def Q11 [q : Hid (V → H → Prop)] : X → E → H → Prop := Qr rs11 q.un
def Q11_1 [q : Hid (V → H → Prop)] : X → E → H → Prop := (@Q11 q)
def K11_1 (h : H) [q : Hid (V → H → Prop)] : Prop := @wF IP 58 [] h ⟨fun v1 h2 => @Hid.un (V → H → Prop) q v1 h2⟩
def J11_1 [q : Hid (V → H → Prop)] : E → H → Prop := fun e h => @K11_1 h q
theorem p11_1 [q : Hid (V → H → Prop)] : den IP c11_1 (@Q11_1 q) = (@J11_1 q) := by kernel_rfl
def R11_2 [q : Hid (V → H → Prop)] : X → E → H → Prop := (Qb 0 (Qx (@J11_1 q) (@Q11 q)))
def Q11_2 [q : Hid (V → H → Prop)] [g11_2 : Hid (V → V → V → V → V → V → V → V → V → H → Prop)] : X → E → H → Prop := Qx (fun e h => g11_2.un (e 1) (e 2) (e 7) (e 8) (e 9) (e 10) (e 11) (e 12) (e 13) h) (@R11_2 q)
def Q11_3 [q : Hid (V → H → Prop)] [g11_2 : Hid (V → V → V → V → V → V → V → V → V → H → Prop)] : X → E → H → Prop := (@Q11_2 q g11_2)
def Q11_4 [q : Hid (V → H → Prop)] [g11_2 : Hid (V → V → V → V → V → V → V → V → V → H → Prop)] : X → E → H → Prop := (@Q11_3 q g11_2)
def K11_4 (x1 x2 x7 x8 x9 x10 x11 x12 x13 : V) (h : H) [q : Hid (V → H → Prop)] [g11_2 : Hid (V → V → V → V → V → V → V → V → V → H → Prop)] : Prop := @Bnd V (bin .add x13 (.i .i64 1)) ⟨fun v1 => @Hid.un (V → V → V → V → V → V → V → V → V → H → Prop) g11_2 x1 x2 x7 x8 x9 x10 x11 x12 v1 h⟩
def J11_4 [q : Hid (V → H → Prop)] [g11_2 : Hid (V → V → V → V → V → V → V → V → V → H → Prop)] : E → H → Prop := fun e h => @K11_4 (e 1) (e 2) (e 7) (e 8) (e 9) (e 10) (e 11) (e 12) (e 13) h q g11_2
theorem p11_4 [q : Hid (V → H → Prop)] [g11_2 : Hid (V → V → V → V → V → V → V → V → V → H → Prop)] : den IP c11_4 (@Q11_4 q g11_2) = (@J11_4 q g11_2) := by kernel_rfl
def Q11_5 [q : Hid (V → H → Prop)] [g11_2 : Hid (V → V → V → V → V → V → V → V → V → H → Prop)] : X → E → H → Prop := (Qb 1 (Qx (@J11_4 q g11_2) (@Q11_3 q g11_2)))
def Q11_6 [q : Hid (V → H → Prop)] [g11_2 : Hid (V → V → V → V → V → V → V → V → V → H → Prop)] : X → E → H → Prop := (@Q11_5 q g11_2)
def Q11_7 [q : Hid (V → H → Prop)] [g11_2 : Hid (V → V → V → V → V → V → V → V → V → H → Prop)] : X → E → H → Prop := (@Q11_6 q g11_2)
def K11_7 (x1 x2 x7 x8 x9 x10 x11 x12 x13 x18 : V) (h : H) [q : Hid (V → H → Prop)] [g11_2 : Hid (V → V → V → V → V → V → V → V → V → H → Prop)] : Prop := @Bnd V (vLdA h 8 x18) ⟨fun v1 => @wF IP 56 [v1] h ⟨fun v2 h3 => @Bnd V (vIa 3 x10 (.i .i64 0)) ⟨fun v4 => @Bnd V (vLdA h3 3 v4) ⟨fun v5 => @Bnd V (vEqa true [.i, .i, .i] v2 v5) ⟨fun v6 => @Chk (stdy true 3 v4 h h3) ⟨@Sel v6 ⟨@Hid.un (V → H → Prop) q (.b false) h3⟩ ⟨@Bnd V (slcut 3 x10 (some (.i .i64 1)) none none) ⟨fun v7 => @Bnd V (bin .add x12 (.i .u64 1)) ⟨fun v8 => @Bnd V (vLdA h3 2 x8) ⟨fun v9 => @wF IP 62 [x9, v9, v8] h3 ⟨fun v10 h11 => @Bnd V (vLens v7) ⟨fun v12 => @Bnd V (bin .neq v10 v12) ⟨fun v13 => @Sel v13 ⟨@Hid.un (V → H → Prop) q (.b false) h11⟩ ⟨@K11_4 x1 x2 x7 x8 x9 v7 x11 v8 x13 h11 q g11_2⟩⟩⟩⟩⟩⟩⟩⟩⟩⟩⟩⟩⟩⟩
def J11_7 [q : Hid (V → H → Prop)] [g11_2 : Hid (V → V → V → V → V → V → V → V → V → H → Prop)] : E → H → Prop := fun e h => @K11_7 (e 1) (e 2) (e 7) (e 8) (e 9) (e 10) (e 11) (e 12) (e 13) (e 18) h q g11_2
theorem p11_7 [q : Hid (V → H → Prop)] [g11_2 : Hid (V → V → V → V → V → V → V → V → V → H → Prop)] : den IP c11_7 (@Q11_7 q g11_2) = (@J11_7 q g11_2) := by kernel_rfl
def Q11_8 [q : Hid (V → H → Prop)] [g11_2 : Hid (V → V → V → V → V → V → V → V → V → H → Prop)] : X → E → H → Prop := (Qx (den IP (.exit 1) (Qx (@J11_7 q g11_2) (@Q11_6 q g11_2))) (Qx (@J11_7 q g11_2) (@Q11_6 q g11_2)))
def K11_8 (x1 x2 x7 x8 x9 x10 x11 x12 x13 x134 : V) (h : H) [q : Hid (V → H → Prop)] [g11_2 : Hid (V → V → V → V → V → V → V → V → V → H → Prop)] : Prop := @Sel x134 ⟨@Hid.un (V → H → Prop) q (.b false) h⟩ ⟨@K11_4 x1 x2 x7 x8 x9 x10 x11 x12 x13 h q g11_2⟩
def J11_8 [q : Hid (V → H → Prop)] [g11_2 : Hid (V → V → V → V → V → V → V → V → V → H → Prop)] : E → H → Prop := fun e h => @K11_8 (e 1) (e 2) (e 7) (e 8) (e 9) (e 10) (e 11) (e 12) (e 13) (e 134) h q g11_2
theorem p11_8 [q : Hid (V → H → Prop)] [g11_2 : Hid (V → V → V → V → V → V → V → V → V → H → Prop)] : den IP c11_8 (@Q11_8 q g11_2) = (@J11_8 q g11_2) := by kernel_rfl
def S11_12 [q : Hid (V → H → Prop)] [g11_2 : Hid (V → V → V → V → V → V → V → V → V → H → Prop)] : E → H → Prop := ((Qx (@J11_8 q g11_2) (Qx (den IP (.exit 1) (Qx (@J11_7 q g11_2) (@Q11_6 q g11_2))) (Qx (@J11_7 q g11_2) (@Q11_6 q g11_2)))) X.normal)
def K11_12 (x1 x2 x7 x8 x9 x10 x11 x12 x13 x129 x133 : V) (h : H) [q : Hid (V → H → Prop)] [g11_2 : Hid (V → V → V → V → V → V → V → V → V → H → Prop)] : Prop := @Bnd V (vPick x129 (.b true) x133) ⟨fun v1 => @K11_8 x1 x2 x7 x8 x9 x10 x11 x12 x13 v1 h q g11_2⟩
def J11_12 [q : Hid (V → H → Prop)] [g11_2 : Hid (V → V → V → V → V → V → V → V → V → H → Prop)] : E → H → Prop := fun e h => @K11_12 (e 1) (e 2) (e 7) (e 8) (e 9) (e 10) (e 11) (e 12) (e 13) (e 129) (e 133) h q g11_2
theorem p11_12 [q : Hid (V → H → Prop)] [g11_2 : Hid (V → V → V → V → V → V → V → V → V → H → Prop)] : denOps IP o11_9 (@S11_12 q g11_2) = (@J11_12 q g11_2) := by
  refine Eq.trans (app_eq rfl rfl) ?_
  kernel_rfl
def K11_6 (x1 x2 x7 x8 x9 x10 x11 x12 x13 x18 x20 : V) (h : H) [q : Hid (V → H → Prop)] [g11_2 : Hid (V → V → V → V → V → V → V → V → V → H → Prop)] : Prop := @Bnd V (bin .neq x20 (.i .i64 0)) ⟨fun v1 => @Sel v1 ⟨@Bnd V (bin .neq x20 (.i .i64 4)) ⟨fun v2 => @Grd v2 false ⟨@Bnd V (vLdA h 8 x18) ⟨fun v3 => @wF IP 56 [v3] h ⟨fun v4 h5 => @Bnd V (vBld [(.i .u64 0), (.i .u64 0), (.i .u64 0)] []) ⟨fun v6 => @Bnd V (vEqa true [.i, .i, .i] v4 v6) ⟨fun v7 => @K11_12 x1 x2 x7 x8 x9 x10 x11 x12 x13 v2 v7 h5 q g11_2⟩⟩⟩⟩⟩ ⟨@K11_12 x1 x2 x7 x8 x9 x10 x11 x12 x13 v2 undefV h q g11_2⟩⟩⟩ ⟨@K11_7 x1 x2 x7 x8 x9 x10 x11 x12 x13 x18 h q g11_2⟩⟩
def J11_6 [q : Hid (V → H → Prop)] [g11_2 : Hid (V → V → V → V → V → V → V → V → V → H → Prop)] : E → H → Prop := fun e h => @K11_6 (e 1) (e 2) (e 7) (e 8) (e 9) (e 10) (e 11) (e 12) (e 13) (e 18) (e 20) h q g11_2
theorem p11_6 [q : Hid (V → H → Prop)] [g11_2 : Hid (V → V → V → V → V → V → V → V → V → H → Prop)] : den IP c11_6 (@Q11_6 q g11_2) = (@J11_6 q g11_2) := by
  refine Eq.trans (seq_eq (@p11_7 q g11_2) (seq_eq (cond_eq (seq_eq rfl (seq_eq (@p11_8 q g11_2) (region_eq (app_eq (grp_eq2 129 false rfl (@p11_12 q g11_2) rfl) rfl)))) rfl) rfl)) ?_
  kernel_rfl
def Q11_13 [q : Hid (V → H → Prop)] [g11_2 : Hid (V → V → V → V → V → V → V → V → V → H → Prop)] : X → E → H → Prop := (Qx (@J11_6 q g11_2) (@Q11_5 q g11_2))
def K11_13 (x1 x2 x7 x8 x9 x10 x11 x12 x13 x18 x20 x124 : V) (h : H) [q : Hid (V → H → Prop)] [g11_2 : Hid (V → V → V → V → V → V → V → V → V → H → Prop)] : Prop := @Sel x124 ⟨@Hid.un (V → H → Prop) q (.b false) h⟩ ⟨@K11_6 x1 x2 x7 x8 x9 x10 x11 x12 x13 x18 x20 h q g11_2⟩
def J11_13 [q : Hid (V → H → Prop)] [g11_2 : Hid (V → V → V → V → V → V → V → V → V → H → Prop)] : E → H → Prop := fun e h => @K11_13 (e 1) (e 2) (e 7) (e 8) (e 9) (e 10) (e 11) (e 12) (e 13) (e 18) (e 20) (e 124) h q g11_2
theorem p11_13 [q : Hid (V → H → Prop)] [g11_2 : Hid (V → V → V → V → V → V → V → V → V → H → Prop)] : den IP c11_13 (@Q11_13 q g11_2) = (@J11_13 q g11_2) := by kernel_rfl
def S11_21 [q : Hid (V → H → Prop)] [g11_2 : Hid (V → V → V → V → V → V → V → V → V → H → Prop)] : E → H → Prop := ((Qx (@J11_13 q g11_2) (Qx (@J11_6 q g11_2) (@Q11_5 q g11_2))) X.normal)
def K11_21 (x1 x2 x7 x8 x9 x10 x11 x12 x13 x18 x20 x117 x123 : V) (h : H) [q : Hid (V → H → Prop)] [g11_2 : Hid (V → V → V → V → V → V → V → V → V → H → Prop)] : Prop := @Bnd V (vPick x117 (.b true) x123) ⟨fun v1 => @K11_13 x1 x2 x7 x8 x9 x10 x11 x12 x13 x18 x20 v1 h q g11_2⟩
def J11_21 [q : Hid (V → H → Prop)] [g11_2 : Hid (V → V → V → V → V → V → V → V → V → H → Prop)] : E → H → Prop := fun e h => @K11_21 (e 1) (e 2) (e 7) (e 8) (e 9) (e 10) (e 11) (e 12) (e 13) (e 18) (e 20) (e 117) (e 123) h q g11_2
theorem p11_21 [q : Hid (V → H → Prop)] [g11_2 : Hid (V → V → V → V → V → V → V → V → V → H → Prop)] : denOps IP o11_14 (@S11_21 q g11_2) = (@J11_21 q g11_2) := by
  refine Eq.trans (app_eq rfl rfl) ?_
  kernel_rfl
def S11_22 [q : Hid (V → H → Prop)] [g11_2 : Hid (V → V → V → V → V → V → V → V → V → H → Prop)] : E → H → Prop := ((Qx (@J11_13 q g11_2) (Qx (@J11_6 q g11_2) (@Q11_5 q g11_2))) X.normal)
def K11_22 (x1 x2 x7 x8 x9 x10 x11 x12 x13 x18 x20 x109 x115 : V) (h : H) [q : Hid (V → H → Prop)] [g11_2 : Hid (V → V → V → V → V → V → V → V → V → H → Prop)] : Prop := @Bnd V (vPick x109 (.b true) x115) ⟨fun v1 => @Grd v1 false ⟨@Bnd V (vLdA h 8 x18) ⟨fun v2 => @wF IP 61 [v2] h ⟨fun v3 h4 => @Bnd V (vLens x10) ⟨fun v5 => @Bnd V (bin .gtr v5 (.i .i64 0)) ⟨fun v6 => @Bnd V (vEqz true .b v3 v6) ⟨fun v7 => @K11_21 x1 x2 x7 x8 x9 x10 x11 x12 x13 x18 x20 v1 v7 h4 q g11_2⟩⟩⟩⟩⟩⟩ ⟨@K11_21 x1 x2 x7 x8 x9 x10 x11 x12 x13 x18 x20 v1 undefV h q g11_2⟩⟩
def J11_22 [q : Hid (V → H → Prop)] [g11_2 : Hid (V → V → V → V → V → V → V → V → V → H → Prop)] : E → H → Prop := fun e h => @K11_22 (e 1) (e 2) (e 7) (e 8) (e 9) (e 10) (e 11) (e 12) (e 13) (e 18) (e 20) (e 109) (e 115) h q g11_2
theorem p11_22 [q : Hid (V → H → Prop)] [g11_2 : Hid (V → V → V → V → V → V → V → V → V → H → Prop)] : denOps IP o11_16 (@S11_22 q g11_2) = (@J11_22 q g11_2) := by
  refine Eq.trans (app_eq (grp_eq2 117 false rfl (@p11_21 q g11_2) rfl) rfl) ?_
  kernel_rfl
def S11_23 [q : Hid (V → H → Prop)] [g11_2 : Hid (V → V → V → V → V → V → V → V → V → H → Prop)] : E → H → Prop := ((Qx (@J11_13 q g11_2) (Qx (@J11_6 q g11_2) (@Q11_5 q g11_2))) X.normal)
def K11_23 (x1 x2 x7 x8 x9 x10 x11 x12 x13 x18 x20 x105 x107 : V) (h : H) [q : Hid (V → H → Prop)] [g11_2 : Hid (V → V → V → V → V → V → V → V → V → H → Prop)] : Prop := @Bnd V (vPick x105 (.b true) x107) ⟨fun v1 => @Grd v1 false ⟨@Bnd V (bin .eql x20 (.i .i64 0)) ⟨fun v2 => @Bnd V (vLens x10) ⟨fun v3 => @Bnd V (bin .gtr v3 (.i .i64 0)) ⟨fun v4 => @Bnd V (vEqz true .b v2 v4) ⟨fun v5 => @K11_22 x1 x2 x7 x8 x9 x10 x11 x12 x13 x18 x20 v1 v5 h q g11_2⟩⟩⟩⟩⟩ ⟨@K11_22 x1 x2 x7 x8 x9 x10 x11 x12 x13 x18 x20 v1 undefV h q g11_2⟩⟩
def J11_23 [q : Hid (V → H → Prop)] [g11_2 : Hid (V → V → V → V → V → V → V → V → V → H → Prop)] : E → H → Prop := fun e h => @K11_23 (e 1) (e 2) (e 7) (e 8) (e 9) (e 10) (e 11) (e 12) (e 13) (e 18) (e 20) (e 105) (e 107) h q g11_2
theorem p11_23 [q : Hid (V → H → Prop)] [g11_2 : Hid (V → V → V → V → V → V → V → V → V → H → Prop)] : denOps IP o11_18 (@S11_23 q g11_2) = (@J11_23 q g11_2) := by
  refine Eq.trans (app_eq (grp_eq2 109 false rfl (@p11_22 q g11_2) rfl) rfl) ?_
  kernel_rfl
def K11_5 (x1 x2 x7 x8 x9 x10 x11 x12 x13 : V) (h : H) [q : Hid (V → H → Prop)] [g11_2 : Hid (V → V → V → V → V → V → V → V → V → H → Prop)] : Prop := @Bnd V (vLdA h 2 x8) ⟨fun v1 => @wF IP 49 [v1, x12] h ⟨fun v2 h3 => @wF IP 60 [x9, v2] h3 ⟨fun v4 h5 => @Bnd V (vExt v4 0) ⟨fun v6 => @Bnd V (vExt v4 1) ⟨fun v7 => @Bnd (V × H) (some (.p (some (H.nx h5, 0)), H.new h5 ⟨false, [(.i .i64 0), (.i .i64 0), (.i .u64 0), (.i .u64 0), (.i .u64 0), (.i .u64 0), (.i .i64 0), (.b false)]⟩)) ⟨fun r8 => @Bnd (V × H) (vStore r8.2 8 r8.1 v6) ⟨fun r9 => @Bnd V (vLdA r9.2 8 r8.1) ⟨fun v10 => @wF IP 55 [v10] r9.2 ⟨fun v11 h12 => @Bnd V (vExt v11 0) ⟨fun v13 => @Bnd V (vExt v11 1) ⟨fun v14 => @Bnd V (un .not v14) ⟨fun v15 => @Grd v15 false ⟨@Bnd V (bin .lss v7 (.i .i64 1)) ⟨fun v16 => @K11_23 x1 x2 x7 x8 x9 x10 x11 x12 x13 r8.1 v13 v15 v16 h12 q g11_2⟩⟩ ⟨@K11_23 x1 x2 x7 x8 x9 x10 x11 x12 x13 r8.1 v13 v15 undefV h12 q g11_2⟩⟩⟩⟩⟩⟩⟩⟩⟩⟩⟩⟩⟩
def J11_5 [q : Hid (V → H → Prop)] [g11_2 : Hid (V → V → V → V → V → V → V → V → V → H → Prop)] : E → H → Prop := fun e h => @K11_5 (e 1) (e 2) (e 7) (e 8) (e 9) (e 10) (e 11) (e 12) (e 13) h q g11_2
theorem p11_5 [q : Hid (V → H → Prop)] [g11_2 : Hid (V → V → V → V → V → V → V → V → V → H → Prop)] : den IP c11_5 (@Q11_5 q g11_2) = (@J11_5 q g11_2) := by
  refine Eq.trans (seq_eq (seq_eq (seq_eq (@p11_6 q g11_2) (seq_eq (@p11_13 q g11_2) (region_eq (app_eq (grp_eq2 105 false rfl (@p11_23 q g11_2) rfl) rfl)))) rfl) rfl) ?_
  kernel_rfl
def Q11_24 [q : Hid (V → H → Prop)] [g11_2 : Hid (V → V → V → V → V → V → V → V → V → H → Prop)] : X → E → H → Prop := (Qx (@J11_5 q g11_2) (Qb 1 (Qx (@J11_4 q g11_2) (@Q11_3 q g11_2))))
def Q11_25 [q : Hid (V → H → Prop)] [g11_2 : Hid (V → V → V → V → V → V → V → V → V → H → Prop)] : X → E → H → Prop := (@Q11_24 q g11_2)
def K11_25 (x1 x2 x7 x8 x9 x10 x11 x12 x13 : V) (h : H) [q : Hid (V → H → Prop)] [g11_2 : Hid (V → V → V → V → V → V → V → V → V → H → Prop)] : Prop := @Bnd V (bin .add x11 (.i .i64 1)) ⟨fun v1 => @K11_4 x1 x2 x7 x8 x9 x10 v1 x12 x13 h q g11_2⟩
def J11_25 [q : Hid (V → H → Prop)] [g11_2 : Hid (V → V → V → V → V → V → V → V → V → H → Prop)] : E → H → Prop := fun e h => @K11_25 (e 1) (e 2) (e 7) (e 8) (e 9) (e 10) (e 11) (e 12) (e 13) h q g11_2
theorem p11_25 [q : Hid (V → H → Prop)] [g11_2 : Hid (V → V → V → V → V → V → V → V → V → H → Prop)] : den IP c11_25 (@Q11_25 q g11_2) = (@J11_25 q g11_2) := by kernel_rfl
def K11_24 (x1 x2 x7 x8 x9 x10 x11 x12 x13 x55 : V) (h : H) [q : Hid (V → H → Prop)] [g11_2 : Hid (V → V → V → V → V → V → V → V → V → H → Prop)] : Prop := @Sel x55 ⟨@Bnd V (vLdA h 2 x8) ⟨fun v1 => @Bnd V (vIa 3 x1 x11) ⟨fun v2 => @Bnd V (vLdA h 3 v2) ⟨fun v3 => @wF IP 50 [v1, v3] h ⟨fun v4 h5 => @wF IP 59 [x9, v4] h5 ⟨fun v6 h7 => @Bnd V (vExt v6 0) ⟨fun v8 => @Bnd V (vExt v6 1) ⟨fun v9 => @Bnd (V × H) (some (.p (some (H.nx h7, 0)), H.new h7 ⟨false, [(.i .i64 0), (.i .i64 0), (.i .u64 0), (.i .u64 0), (.i .u64 0), (.i .u64 0), (.i .i64 0), (.b false), (.b false)]⟩)) ⟨fun r10 => @Bnd (V × H) (vStore r10.2 9 r10.1 v8) ⟨fun r11 => @Bnd V (vLdA r11.2 9 r10.1) ⟨fun v12 => @wF IP 53 [v12] r11.2 ⟨fun v13 h14 => @Bnd V (vExt v13 0) ⟨fun v15 => @Bnd V (vExt v13 1) ⟨fun v16 => @Bnd V (bin .eql v15 (.i .i64 0)) ⟨fun v17 => @Bnd V (vLens x10) ⟨fun v18 => @Bnd V (bin .lss v18 x7) ⟨fun v19 => @Bnd V (vEqz true .b v17 v19) ⟨fun v20 => @Sel v20 ⟨@Hid.un (V → H → Prop) q (.b false) h14⟩ ⟨@Bnd V (bin .eql v15 (.i .i64 0)) ⟨fun v21 => @Sel v21 ⟨@Bnd V (vIa 3 x1 x11) ⟨fun v22 => @Bnd V (vLdA h14 3 v22) ⟨fun v23 => @Bnd (V × H) (vNewSl 1 [(.i .u64 0), (.i .u64 0), (.i .u64 0)] [(0, 3, v23)] h14) ⟨fun r24 => @Bnd (V × H) (vApp 3 24 x10 r24.1 r24.2) ⟨fun r25 => @K11_25 x1 x2 x7 x8 x9 r25.1 x11 x12 x13 r25.2 q g11_2⟩⟩⟩⟩⟩ ⟨@K11_25 x1 x2 x7 x8 x9 x10 x11 x12 x13 h14 q g11_2⟩⟩⟩⟩⟩⟩⟩⟩⟩⟩⟩⟩⟩⟩⟩⟩⟩⟩⟩⟩⟩ ⟨@K11_5 x1 x2 x7 x8 x9 x10 x11 x12 x13 h q g11_2⟩
def J11_24 [q : Hid (V → H → Prop)] [g11_2 : Hid (V → V → V → V → V → V → V → V → V → H → Prop)] : E → H → Prop := fun e h => @K11_24 (e 1) (e 2) (e 7) (e 8) (e 9) (e 10) (e 11) (e 12) (e 13) (e 55) h q g11_2
theorem p11_24 [q : Hid (V → H → Prop)] [g11_2 : Hid (V → V → V → V → V → V → V → V → V → H → Prop)] : den IP c11_24 (@Q11_24 q g11_2) = (@J11_24 q g11_2) := by
  refine Eq.trans (cond_eq (seq_eq (seq_eq (seq_eq (seq_eq (@p11_25 q g11_2) rfl) rfl) rfl) rfl) rfl) ?_
  kernel_rfl
def S11_29 [q : Hid (V → H → Prop)] [g11_2 : Hid (V → V → V → V → V → V → V → V → V → H → Prop)] : E → H → Prop := ((Qx (@J11_24 q g11_2) (Qx (@J11_5 q g11_2) (Qb 1 (Qx (@J11_4 q g11_2) (@Q11_3 q g11_2))))) X.normal)
def K11_29 (x1 x2 x7 x8 x9 x10 x11 x12 x13 x50 x54 : V) (h : H) [q : Hid (V → H → Prop)] [g11_2 : Hid (V → V → V → V → V → V → V → V → V → H → Prop)] : Prop := @Bnd V (vPick x50 x54 (.b false)) ⟨fun v1 => @K11_24 x1 x2 x7 x8 x9 x10 x11 x12 x13 v1 h q g11_2⟩
def J11_29 [q : Hid (V → H → Prop)] [g11_2 : Hid (V → V → V → V → V → V → V → V → V → H → Prop)] : E → H → Prop := fun e h => @K11_29 (e 1) (e 2) (e 7) (e 8) (e 9) (e 10) (e 11) (e 12) (e 13) (e 50) (e 54) h q g11_2
theorem p11_29 [q : Hid (V → H → Prop)] [g11_2 : Hid (V → V → V → V → V → V → V → V → V → H → Prop)] : denOps IP o11_26 (@S11_29 q g11_2) = (@J11_29 q g11_2) := by
  refine Eq.trans (app_eq rfl rfl) ?_
  kernel_rfl
def K11_3 (x1 x2 x7 x8 x9 x10 x11 x12 x13 : V) (h : H) [q : Hid (V → H → Prop)] [g11_2 : Hid (V → V → V → V → V → V → V → V → V → H → Prop)] : Prop := @Bnd V (vIa 1 x2 x13) ⟨fun v1 => @Bnd V (vLd1 h v1) ⟨fun v2 => @Grd v2 true ⟨@Bnd V (vLens x1) ⟨fun v3 => @Bnd V (bin .lss x11 v3) ⟨fun v4 => @K11_29 x1 x2 x7 x8 x9 x10 x11 x12 x13 v2 v4 h q g11_2⟩⟩⟩ ⟨@K11_29 x1 x2 x7 x8 x9 x10 x11 x12 x13 v2 undefV h q g11_2⟩⟩⟩
def J11_3 [q : Hid (V → H → Prop)] [g11_2 : Hid (V → V → V → V → V → V → V → V → V → H → Prop)] : E → H → Prop := fun e h => @K11_3 (e 1) (e 2) (e 7) (e 8) (e 9) (e 10) (e 11) (e 12) (e 13) h q g11_2
theorem p11_3 [q : Hid (V → H → Prop)] [g11_2 : Hid (V → V → V → V → V → V → V → V → V → H → Prop)] : den IP c11_3 (@Q11_3 q g11_2) = (@J11_3 q g11_2) := by
  refine Eq.trans (seq_eq (@p11_4 q g11_2) (block_eq (seq_eq (@p11_5 q g11_2) (seq_eq (@p11_24 q g11_2) (region_eq (app_eq (grp_eq2 50 true rfl (@p11_29 q g11_2) rfl) rfl)))))) ?_
  kernel_rfl
def Q11_30 [q : Hid (V → H → Prop)] [g11_2 : Hid (V → V → V → V → V → V → V → V → V → H → Prop)] : X → E → H → Prop := (Qx (@J11_3 q g11_2) (@Q11_2 q g11_2))
def K11_30 (x1 x2 x7 x8 x9 x10 x11 x12 x13 x43 : V) (h : H) [q : Hid (V → H → Prop)] [g11_2 : Hid (V → V → V → V → V → V → V → V → V → H → Prop)] : Prop := @Sel x43 ⟨@K11_3 x1 x2 x7 x8 x9 x10 x11 x12 x13 h q g11_2⟩ ⟨@K11_1 h q⟩
def J11_30 [q : Hid (V → H → Prop)] [g11_2 : Hid (V → V → V → V → V → V → V → V → V → H → Prop)] : E → H → Prop := fun e h => @K11_30 (e 1) (e 2) (e 7) (e 8) (e 9) (e 10) (e 11) (e 12) (e 13) (e 43) h q g11_2
theorem p11_30 [q : Hid (V → H → Prop)] [g11_2 : Hid (V → V → V → V → V → V → V → V → V → H → Prop)] : den IP c11_30 (@Q11_30 q g11_2) = (@J11_30 q g11_2) := by kernel_rfl
def S11_34 [q : Hid (V → H → Prop)] [g11_2 : Hid (V → V → V → V → V → V → V → V → V → H → Prop)] : E → H → Prop := ((Qx (@J11_30 q g11_2) (Qx (@J11_3 q g11_2) (@Q11_2 q g11_2))) X.normal)
def K11_34 (x1 x2 x7 x8 x9 x10 x11 x12 x13 x40 x42 : V) (h : H) [q : Hid (V → H → Prop)] [g11_2 : Hid (V → V → V → V → V → V → V → V → V → H → Prop)] : Prop := @Bnd V (vPick x40 x42 (.b false)) ⟨fun v1 => @K11_30 x1 x2 x7 x8 x9 x10 x11 x12 x13 v1 h q g11_2⟩
def J11_34 [q : Hid (V → H → Prop)] [g11_2 : Hid (V → V → V → V → V → V → V → V → V → H → Prop)] : E → H → Prop := fun e h => @K11_34 (e 1) (e 2) (e 7) (e 8) (e 9) (e 10) (e 11) (e 12) (e 13) (e 40) (e 42) h q g11_2
theorem p11_34 [q : Hid (V → H → Prop)] [g11_2 : Hid (V → V → V → V → V → V → V → V → V → H → Prop)] : denOps IP o11_31 (@S11_34 q g11_2) = (@J11_34 q g11_2) := by
  refine Eq.trans (app_eq rfl rfl) ?_
  kernel_rfl
def L11_2 (x1 x2 x7 x8 x9 x10 x11 x12 x13 : V) (h : H) [q : Hid (V → H → Prop)] [g11_2 : Hid (V → V → V → V → V → V → V → V → V → H → Prop)] : Prop := @Bnd V (vLens x2) ⟨fun v1 => @Bnd V (bin .lss x13 v1) ⟨fun v2 => @Grd v2 true ⟨@Bnd V (bin .lss x13 (.i .i64 40)) ⟨fun v3 => @K11_34 x1 x2 x7 x8 x9 x10 x11 x12 x13 v2 v3 h q g11_2⟩⟩ ⟨@K11_34 x1 x2 x7 x8 x9 x10 x11 x12 x13 v2 undefV h q g11_2⟩⟩⟩
theorem p11_2 [q : Hid (V → H → Prop)] [g11_2 : Hid (V → V → V → V → V → V → V → V → V → H → Prop)] : den IP c11_2 (@Q11_2 q g11_2) = fun e h => @L11_2 (e 1) (e 2) (e 7) (e 8) (e 9) (e 10) (e 11) (e 12) (e 13) h q g11_2 := by
  refine Eq.trans (seq_eq (@p11_3 q g11_2) (seq_eq (@p11_30 q g11_2) (region_eq (app_eq (grp_eq2 40 true rfl (@p11_34 q g11_2) rfl) rfl)))) ?_
  kernel_rfl
def W11_2 (x1 x2 x7 x8 x9 x10 x11 x12 x13 : V) (h : H) [q : Hid (V → H → Prop)] : Prop := wFix (fun (g : V × V × V × V × V × V × V × V × V × Unit → H → Prop) (x : V × V × V × V × V × V × V × V × V × Unit) h => @L11_2 x.1 x.2.1 x.2.2.1 x.2.2.2.1 x.2.2.2.2.1 x.2.2.2.2.2.1 x.2.2.2.2.2.2.1 x.2.2.2.2.2.2.2.1 x.2.2.2.2.2.2.2.2.1 h q ⟨fun y1 y2 y7 y8 y9 y10 y11 y12 y13 h => g (y1, y2, y7, y8, y9, y10, y11, y12, y13, ()) h⟩) (x1, x2, x7, x8, x9, x10, x11, x12, x13, ()) h
theorem n11_2 [q : Hid (V → H → Prop)] : ∀ g : V × V × V × V × V × V × V × V × V × Unit → H → Prop, den IP c11_2 (Qx (fun e h => g ((fun e : E => ((e 1, e 2, e 7, e 8, e 9, e 10, e 11, e 12, e 13, ()) : V × V × V × V × V × V × V × V × V × Unit)) e) h) (@R11_2 q)) = fun e h => (fun (g : V × V × V × V × V × V × V × V × V × Unit → H → Prop) (x : V × V × V × V × V × V × V × V × V × Unit) h => @L11_2 x.1 x.2.1 x.2.2.1 x.2.2.2.1 x.2.2.2.2.1 x.2.2.2.2.2.1 x.2.2.2.2.2.2.1 x.2.2.2.2.2.2.2.1 x.2.2.2.2.2.2.2.2.1 h q ⟨fun y1 y2 y7 y8 y9 y10 y11 y12 y13 h => g (y1, y2, y7, y8, y9, y10, y11, y12, y13, ()) h⟩) g ((fun e : E => ((e 1, e 2, e 7, e 8, e 9, e 10, e 11, e 12, e 13, ()) : V × V × V × V × V × V × V × V × V × Unit)) e) h := fun g => @p11_2 q ⟨fun y1 y2 y7 y8 y9 y10 y11 y12 y13 h => g (y1, y2, y7, y8, y9, y10, y11, y12, y13, ()) h⟩
theorem w11_2 [q : Hid (V → H → Prop)] : den IP (.loop c11_2) (@R11_2 q) = fun e h => @W11_2 (e 1) (e 2) (e 7) (e 8) (e 9) (e 10) (e 11) (e 12) (e 13) h q := loop_eq (fun e : E => ((e 1, e 2, e 7, e 8, e 9, e 10, e 11, e 12, e 13, ()) : V × V × V × V × V × V × V × V × V × Unit)) (fun (g : V × V × V × V × V × V × V × V × V × Unit → H → Prop) (x : V × V × V × V × V × V × V × V × V × Unit) h => @L11_2 x.1 x.2.1 x.2.2.1 x.2.2.2.1 x.2.2.2.2.1 x.2.2.2.2.2.1 x.2.2.2.2.2.2.1 x.2.2.2.2.2.2.2.1 x.2.2.2.2.2.2.2.2.1 h q ⟨fun y1 y2 y7 y8 y9 y10 y11 y12 y13 h => g (y1, y2, y7, y8, y9, y10, y11, y12, y13, ()) h⟩) (@n11_2 q)
theorem m11_2 [q : Hid (V → H → Prop)] : Mono (fun (g : V × V × V × V × V × V × V × V × V × Unit → H → Prop) (x : V × V × V × V × V × V × V × V × V × Unit) h => @L11_2 x.1 x.2.1 x.2.2.1 x.2.2.2.1 x.2.2.2.2.1 x.2.2.2.2.2.1 x.2.2.2.2.2.2.1 x.2.2.2.2.2.2.2.1 x.2.2.2.2.2.2.2.2.1 h q ⟨fun y1 y2 y7 y8 y9 y10 y11 y12 y13 h => g (y1, y2, y7, y8, y9, y10, y11, y12, y13, ()) h⟩) := mono_of (p := (fun e : E => ((e 1, e 2, e 7, e 8, e 9, e 10, e 11, e 12, e 13, ()) : V × V × V × V × V × V × V × V × V × Unit))) (fun x : V × V × V × V × V × V × V × V × V × Unit => upd (upd (upd (upd (upd (upd (upd (upd (upd (fun _ => undefV) 13 (x.2.2.2.2.2.2.2.2.1)) 12 (x.2.2.2.2.2.2.2.1)) 11 (x.2.2.2.2.2.2.1)) 10 (x.2.2.2.2.2.1)) 9 (x.2.2.2.2.1)) 8 (x.2.2.2.1)) 7 (x.2.2.1)) 2 (x.2.1)) 1 (x.1)) (fun _ => rfl) (@n11_2 q)
theorem W11_2_inv {q : Hid (V → H → Prop)} (I : Nat → V → V → V → V → V → V → V → V → V → H → Prop) (step : ∀ n x1 x2 x7 x8 x9 x10 x11 x12 x13 h, I n x1 x2 x7 x8 x9 x10 x11 x12 x13 h → @L11_2 x1 x2 x7 x8 x9 x10 x11 x12 x13 h q ⟨fun y1 y2 y7 y8 y9 y10 y11 y12 y13 h => ∃ m, m < n ∧ I m y1 y2 y7 y8 y9 y10 y11 y12 y13 h⟩) (n : Nat) (x1 x2 x7 x8 x9 x10 x11 x12 x13 : V) (h : H) (hi : I n x1 x2 x7 x8 x9 x10 x11 x12 x13 h) : @W11_2 x1 x2 x7 x8 x9 x10 x11 x12 x13 h q :=
  wFix_inv (@m11_2 q) (fun n x h => I n x.1 x.2.1 x.2.2.1 x.2.2.2.1 x.2.2.2.2.1 x.2.2.2.2.2.1 x.2.2.2.2.2.2.1 x.2.2.2.2.2.2.2.1 x.2.2.2.2.2.2.2.2.1 h) (fun n x h hi => step n x.1 x.2.1 x.2.2.1 x.2.2.2.1 x.2.2.2.2.1 x.2.2.2.2.2.1 x.2.2.2.2.2.2.1 x.2.2.2.2.2.2.2.1 x.2.2.2.2.2.2.2.2.1 h hi) n (x1, x2, x7, x8, x9, x10, x11, x12, x13, ()) h hi
theorem W11_2_eq (x1 x2 x7 x8 x9 x10 x11 x12 x13 : V) (h : H) {q : Hid (V → H → Prop)} : @W11_2 x1 x2 x7 x8 x9 x10 x11 x12 x13 h q ↔ @L11_2 x1 x2 x7 x8 x9 x10 x11 x12 x13 h q ⟨fun y1 y2 y7 y8 y9 y10 y11 y12 y13 h => @W11_2 y1 y2 y7 y8 y9 y10 y11 y12 y13 h q⟩ := wFix_unroll (@m11_2 q) (x1, x2, x7, x8, x9, x10, x11, x12, x13, ()) h
def K11 (x0 x1 x2 : V) (h : H) [q : Hid (V → H → Prop)] : Prop := @Bnd V (bin .and x0 (.i .i64 1)) ⟨fun v1 => @Bnd V (vCvi .u64 v1) ⟨fun v2 => @Bnd V (bin .shl (.i .i64 2) v2) ⟨fun v3 => @Bnd V (vBld [(.i .i64 0), (.i .i64 0)] [(0, 1, (.i .i64 1)), (1, 1, v3)]) ⟨fun v4 => @Bnd (V × H) (some (.p (some (H.nx h, 0)), H.new h ⟨false, [(.i .i64 0), (.i .i64 0)]⟩)) ⟨fun r5 => @Bnd (V × H) (vStore r5.2 2 r5.1 v4) ⟨fun r6 => @wF IP 47 [v3] r6.2 ⟨fun v7 h8 => @Bnd V (bin .add (.i .i64 1) v7) ⟨fun v9 => @wF IP 46 [v9] h8 ⟨fun v10 h11 => @Bnd V (vLdA h11 2 r5.1) ⟨fun v12 => @wF IP 48 [v10, v12] h11 ⟨fun v13 h14 => @Bnd (V × H) (vNewSl 0 [] [] h14) ⟨fun r15 => @W11_2 x1 x2 v3 r5.1 v10 r15.1 (.i .i64 0) (.i .u64 0) (.i .i64 0) r15.2 q⟩⟩⟩⟩⟩⟩⟩⟩⟩⟩⟩⟩
theorem p11 [q : Hid (V → H → Prop)] : den IP c11 (@Q11 q) = fun e h => @K11 (e 0) (e 1) (e 2) h q := by
  refine Eq.trans (seq_eq (seq_eq (seq_eq (seq_eq (seq_eq (seq_eq (seq_eq (@p11_1 q) (seq_eq (block_eq (@w11_2 q)) rfl)) rfl) rfl) rfl) rfl) rfl) rfl) ?_
  kernel_rfl
theorem f11 (a0 a1 a2 : V) (h : H) (Q : V → H → Prop) : @wF IP 11 [a0, a1, a2] h ⟨Q⟩ ↔ @K11 a0 a1 a2 h ⟨Q⟩ := (Fnc_den (ip11) (by kernel_rfl) (by kernel_rfl) h Q).trans (iff_of_eq (congrFun (congrFun (@p11 ⟨Q⟩) _) h))
theorem ip46 : IP 46 = some ir46 := rfl
def Q46 [q : Hid (V → H → Prop)] : X → E → H → Prop := Qr rs46 q.un
def Q46_1 [q : Hid (V → H → Prop)] : X → E → H → Prop := (@Q46 q)
def K46_1 (x0 : V) (h : H) [q : Hid (V → H → Prop)] : Prop := @Bnd (V × H) (vMake 8 [(.i .u64 0)] x0 h) ⟨fun r1 => @Bnd V (vBld [.nsl, .nsl, (.i .i64 0)] [(0, 1, r1.1)]) ⟨fun v2 => @Bnd (V × H) (vBox v2 r1.2) ⟨fun r3 => @Hid.un (V → H → Prop) q r3.1 r3.2⟩⟩⟩
def J46_1 [q : Hid (V → H → Prop)] : E → H → Prop := fun e h => @K46_1 (e 0) h q
theorem p46_1 [q : Hid (V → H → Prop)] : den IP c46_1 (@Q46_1 q) = (@J46_1 q) := by kernel_rfl
def Q46_2 [q : Hid (V → H → Prop)] : X → E → H → Prop := (Qx (@J46_1 q) (@Q46 q))
def K46_2 (x0 x8 : V) (h : H) [q : Hid (V → H → Prop)] : Prop := @Sel x8 ⟨@Hid.un (V → H → Prop) q (.p none) h⟩ ⟨@K46_1 x0 h q⟩
def J46_2 [q : Hid (V → H → Prop)] : E → H → Prop := fun e h => @K46_2 (e 0) (e 8) h q
theorem p46_2 [q : Hid (V → H → Prop)] : den IP c46_2 (@Q46_2 q) = (@J46_2 q) := by kernel_rfl
def S46_6 [q : Hid (V → H → Prop)] : E → H → Prop := ((Qx (@J46_2 q) (Qx (@J46_1 q) (@Q46 q))) X.normal)
def K46_6 (x0 x5 x7 : V) (h : H) [q : Hid (V → H → Prop)] : Prop := @Bnd V (vPick x5 (.b true) x7) ⟨fun v1 => @K46_2 x0 v1 h q⟩
def J46_6 [q : Hid (V → H → Prop)] : E → H → Prop := fun e h => @K46_6 (e 0) (e 5) (e 7) h q
theorem p46_6 [q : Hid (V → H → Prop)] : denOps IP o46_3 (@S46_6 q) = (@J46_6 q) := by
  refine Eq.trans (app_eq rfl rfl) ?_
  kernel_rfl
def K46 (x0 : V) (h : H) [q : Hid (V → H → Prop)] : Prop := @Bnd V (bin .lss x0 (.i .i64 1)) ⟨fun v1 => @Grd v1 false ⟨@Bnd V (bin .gtr x0 (.i .i64 16384)) ⟨fun v2 => @K46_6 x0 v1 v2 h q⟩⟩ ⟨@K46_6 x0 v1 undefV h q⟩⟩
theorem p46 [q : Hid (V → H → Prop)] : den IP c46 (@Q46 q) = fun e h => @K46 (e 0) h q := by
  refine Eq.trans (seq_eq (seq_eq (@p46_1 q) (seq_eq (@p46_2 q) (region_eq (app_eq (grp_eq2 5 false rfl (@p46_6 q) rfl) rfl)))) rfl) ?_
  kernel_rfl
theorem f46 (a0 : V) (h : H) (Q : V → H → Prop) : @wF IP 46 [a0] h ⟨Q⟩ ↔ @K46 a0 h ⟨Q⟩ := (Fnc_den (ip46) (by kernel_rfl) (by kernel_rfl) h Q).trans (iff_of_eq (congrFun (congrFun (@p46 ⟨Q⟩) _) h))
theorem ip47 : IP 47 = some ir47 := rfl
def Q47 [q : Hid (V → H → Prop)] : X → E → H → Prop := Qr rs47 q.un
def K47 (x0 : V) (h : H) [q : Hid (V → H → Prop)] : Prop := @Bnd V (foldO max2 x0 [(.i .i64 0)]) ⟨fun v1 => @Bnd V (foldO min2 v1 [(.i .i64 64)]) ⟨fun v2 => @Bnd V (bin .mul v2 (.i .i64 4)) ⟨fun v3 => @Bnd V (bin .add (.i .i64 1) v3) ⟨fun v4 => @Hid.un (V → H → Prop) q v4 h⟩⟩⟩⟩
theorem p47 [q : Hid (V → H → Prop)] : den IP c47 (@Q47 q) = fun e h => @K47 (e 0) h q := by kernel_rfl
theorem f47 (a0 : V) (h : H) (Q : V → H → Prop) : @wF IP 47 [a0] h ⟨Q⟩ ↔ @K47 a0 h ⟨Q⟩ := (Fnc_den (ip47) (by kernel_rfl) (by kernel_rfl) h Q).trans (iff_of_eq (congrFun (congrFun (@p47 ⟨Q⟩) _) h))
theorem ip48 : IP 48 = some ir48 := rfl
def Q48 [q : Hid (V → H → Prop)] : X → E → H → Prop := Qr rs48 q.un
def Q48_1 [q : Hid (V → H → Prop)] : X → E → H → Prop := (@Q48 q)
def Q48_2 [q : Hid (V → H → Prop)] : X → E → H → Prop := (@Q48_1 q)
def K48_2 (h : H) [q : Hid (V → H → Prop)] : Prop := @Hid.un (V → H → Prop) q (.i .i64 0) h
def J48_2 [q : Hid (V → H → Prop)] : E → H → Prop := fun e h => @K48_2 h q
theorem p48_2 [q : Hid (V → H → Prop)] : den IP c48_2 (@Q48_2 q) = (@J48_2 q) := by kernel_rfl
def R48_3 [q : Hid (V → H → Prop)] : X → E → H → Prop := (Qb 0 (Qx (@J48_2 q) (@Q48_1 q)))
def Q48_3 [q : Hid (V → H → Prop)] [g48_3 : Hid (V → V → V → V → H → Prop)] : X → E → H → Prop := Qx (fun e h => g48_3.un (e 0) (e 3) (e 26) (e 27) h) (@R48_3 q)
def Q48_4 [q : Hid (V → H → Prop)] [g48_3 : Hid (V → V → V → V → H → Prop)] : X → E → H → Prop := (@Q48_3 q g48_3)
def K48_4 (x0 x3 x26 x27 : V) (h : H) [q : Hid (V → H → Prop)] [g48_3 : Hid (V → V → V → V → H → Prop)] : Prop := @Bnd V (bin .add x27 (.i .i64 1)) ⟨fun v1 => @Hid.un (V → V → V → V → H → Prop) g48_3 x0 x3 x26 v1 h⟩
def J48_4 [q : Hid (V → H → Prop)] [g48_3 : Hid (V → V → V → V → H → Prop)] : E → H → Prop := fun e h => @K48_4 (e 0) (e 3) (e 26) (e 27) h q g48_3
theorem p48_4 [q : Hid (V → H → Prop)] [g48_3 : Hid (V → V → V → V → H → Prop)] : den IP c48_4 (@Q48_4 q g48_3) = (@J48_4 q g48_3) := by kernel_rfl
def R48_5 [q : Hid (V → H → Prop)] [g48_3 : Hid (V → V → V → V → H → Prop)] : X → E → H → Prop := (Qb 2 (Qb 1 (Qx (@J48_4 q g48_3) (@Q48_3 q g48_3))))
def Q48_5 [q : Hid (V → H → Prop)] [g48_3 : Hid (V → V → V → V → H → Prop)] [g48_5 : Hid (V → V → V → V → V → V → H → Prop)] : X → E → H → Prop := Qx (fun e h => g48_5.un (e 0) (e 3) (e 5) (e 26) (e 27) (e 38) h) (@R48_5 q g48_3)
def L48_5 (x0 x3 x5 x26 x27 x38 : V) (h : H) [q : Hid (V → H → Prop)] [g48_3 : Hid (V → V → V → V → H → Prop)] [g48_5 : Hid (V → V → V → V → V → V → H → Prop)] : Prop := @Bnd V (bin .lss x38 (.i .i64 3)) ⟨fun v1 => @Sel v1 ⟨@Bnd V (vLdA h 2 x3) ⟨fun v2 => @Bnd V (vCvi .u64 x5) ⟨fun v3 => @wF IP 98 [v2, v3] h ⟨fun v4 h5 => @Bnd V (bin .add v4 (.i .i64 1)) ⟨fun v6 => @Bnd V (bin .add v6 x38) ⟨fun v7 => @wF IP 97 [x0, v7, (.i .u64 0)] h5 ⟨fun v8 h9 => @Bnd V (bin .add x38 (.i .i64 1)) ⟨fun v10 => @Hid.un (V → V → V → V → V → V → H → Prop) g48_5 x0 x3 x5 x26 x27 v10 h9⟩⟩⟩⟩⟩⟩⟩⟩ ⟨@K48_4 x0 x3 x26 x27 h q g48_3⟩⟩
theorem p48_5 [q : Hid (V → H → Prop)] [g48_3 : Hid (V → V → V → V → H → Prop)] [g48_5 : Hid (V → V → V → V → V → V → H → Prop)] : den IP c48_5 (@Q48_5 q g48_3 g48_5) = fun e h => @L48_5 (e 0) (e 3) (e 5) (e 26) (e 27) (e 38) h q g48_3 g48_5 := by kernel_rfl
def W48_5 (x0 x3 x5 x26 x27 x38 : V) (h : H) [q : Hid (V → H → Prop)] [g48_3 : Hid (V → V → V → V → H → Prop)] : Prop := wFix (fun (g : V × V × V × V × V × V × Unit → H → Prop) (x : V × V × V × V × V × V × Unit) h => @L48_5 x.1 x.2.1 x.2.2.1 x.2.2.2.1 x.2.2.2.2.1 x.2.2.2.2.2.1 h q g48_3 ⟨fun y0 y3 y5 y26 y27 y38 h => g (y0, y3, y5, y26, y27, y38, ()) h⟩) (x0, x3, x5, x26, x27, x38, ()) h
theorem n48_5 [q : Hid (V → H → Prop)] [g48_3 : Hid (V → V → V → V → H → Prop)] : ∀ g : V × V × V × V × V × V × Unit → H → Prop, den IP c48_5 (Qx (fun e h => g ((fun e : E => ((e 0, e 3, e 5, e 26, e 27, e 38, ()) : V × V × V × V × V × V × Unit)) e) h) (@R48_5 q g48_3)) = fun e h => (fun (g : V × V × V × V × V × V × Unit → H → Prop) (x : V × V × V × V × V × V × Unit) h => @L48_5 x.1 x.2.1 x.2.2.1 x.2.2.2.1 x.2.2.2.2.1 x.2.2.2.2.2.1 h q g48_3 ⟨fun y0 y3 y5 y26 y27 y38 h => g (y0, y3, y5, y26, y27, y38, ()) h⟩) g ((fun e : E => ((e 0, e 3, e 5, e 26, e 27, e 38, ()) : V × V × V × V × V × V × Unit)) e) h := fun g => @p48_5 q g48_3 ⟨fun y0 y3 y5 y26 y27 y38 h => g (y0, y3, y5, y26, y27, y38, ()) h⟩
theorem w48_5 [q : Hid (V → H → Prop)] [g48_3 : Hid (V → V → V → V → H → Prop)] : den IP (.loop c48_5) (@R48_5 q g48_3) = fun e h => @W48_5 (e 0) (e 3) (e 5) (e 26) (e 27) (e 38) h q g48_3 := loop_eq (fun e : E => ((e 0, e 3, e 5, e 26, e 27, e 38, ()) : V × V × V × V × V × V × Unit)) (fun (g : V × V × V × V × V × V × Unit → H → Prop) (x : V × V × V × V × V × V × Unit) h => @L48_5 x.1 x.2.1 x.2.2.1 x.2.2.2.1 x.2.2.2.2.1 x.2.2.2.2.2.1 h q g48_3 ⟨fun y0 y3 y5 y26 y27 y38 h => g (y0, y3, y5, y26, y27, y38, ()) h⟩) (@n48_5 q g48_3)
theorem m48_5 [q : Hid (V → H → Prop)] [g48_3 : Hid (V → V → V → V → H → Prop)] : Mono (fun (g : V × V × V × V × V × V × Unit → H → Prop) (x : V × V × V × V × V × V × Unit) h => @L48_5 x.1 x.2.1 x.2.2.1 x.2.2.2.1 x.2.2.2.2.1 x.2.2.2.2.2.1 h q g48_3 ⟨fun y0 y3 y5 y26 y27 y38 h => g (y0, y3, y5, y26, y27, y38, ()) h⟩) := mono_of (p := (fun e : E => ((e 0, e 3, e 5, e 26, e 27, e 38, ()) : V × V × V × V × V × V × Unit))) (fun x : V × V × V × V × V × V × Unit => upd (upd (upd (upd (upd (upd (fun _ => undefV) 38 (x.2.2.2.2.2.1)) 27 (x.2.2.2.2.1)) 26 (x.2.2.2.1)) 5 (x.2.2.1)) 3 (x.2.1)) 0 (x.1)) (fun _ => rfl) (@n48_5 q g48_3)
theorem W48_5_inv {q : Hid (V → H → Prop)} {g48_3 : Hid (V → V → V → V → H → Prop)} (I : Nat → V → V → V → V → V → V → H → Prop) (step : ∀ n x0 x3 x5 x26 x27 x38 h, I n x0 x3 x5 x26 x27 x38 h → @L48_5 x0 x3 x5 x26 x27 x38 h q g48_3 ⟨fun y0 y3 y5 y26 y27 y38 h => ∃ m, m < n ∧ I m y0 y3 y5 y26 y27 y38 h⟩) (n : Nat) (x0 x3 x5 x26 x27 x38 : V) (h : H) (hi : I n x0 x3 x5 x26 x27 x38 h) : @W48_5 x0 x3 x5 x26 x27 x38 h q g48_3 :=
  wFix_inv (@m48_5 q g48_3) (fun n x h => I n x.1 x.2.1 x.2.2.1 x.2.2.2.1 x.2.2.2.2.1 x.2.2.2.2.2.1 h) (fun n x h hi => step n x.1 x.2.1 x.2.2.1 x.2.2.2.1 x.2.2.2.2.1 x.2.2.2.2.2.1 h hi) n (x0, x3, x5, x26, x27, x38, ()) h hi
theorem W48_5_eq (x0 x3 x5 x26 x27 x38 : V) (h : H) {q : Hid (V → H → Prop)} {g48_3 : Hid (V → V → V → V → H → Prop)} : @W48_5 x0 x3 x5 x26 x27 x38 h q g48_3 ↔ @L48_5 x0 x3 x5 x26 x27 x38 h q g48_3 ⟨fun y0 y3 y5 y26 y27 y38 h => @W48_5 y0 y3 y5 y26 y27 y38 h q g48_3⟩ := wFix_unroll (@m48_5 q g48_3) (x0, x3, x5, x26, x27, x38, ()) h
def L48_3 (x0 x3 x26 x27 : V) (h : H) [q : Hid (V → H → Prop)] [g48_3 : Hid (V → V → V → V → H → Prop)] : Prop := @Bnd V (bin .lss x27 x26) ⟨fun v1 => @Sel v1 ⟨@Bnd V (vLdA h 2 x3) ⟨fun v2 => @Bnd V (vCvi .u64 x27) ⟨fun v3 => @wF IP 98 [v2, v3] h ⟨fun v4 h5 => @Bnd V (vCvi .u64 x27) ⟨fun v6 => @wF IP 97 [x0, v4, v6] h5 ⟨fun v7 h8 => @W48_5 x0 x3 x27 x26 x27 (.i .i64 0) h8 q g48_3⟩⟩⟩⟩⟩⟩ ⟨@K48_2 h q⟩⟩
theorem p48_3 [q : Hid (V → H → Prop)] [g48_3 : Hid (V → V → V → V → H → Prop)] : den IP c48_3 (@Q48_3 q g48_3) = fun e h => @L48_3 (e 0) (e 3) (e 26) (e 27) h q g48_3 := by
  refine Eq.trans (seq_eq (seq_eq (seq_eq (@p48_4 q g48_3) (block_eq (seq_eq (seq_eq (seq_eq (block_eq (@w48_5 q g48_3)) rfl) rfl) rfl))) rfl) rfl) ?_
  kernel_rfl
def W48_3 (x0 x3 x26 x27 : V) (h : H) [q : Hid (V → H → Prop)] : Prop := wFix (fun (g : V × V × V × V × Unit → H → Prop) (x : V × V × V × V × Unit) h => @L48_3 x.1 x.2.1 x.2.2.1 x.2.2.2.1 h q ⟨fun y0 y3 y26 y27 h => g (y0, y3, y26, y27, ()) h⟩) (x0, x3, x26, x27, ()) h
theorem n48_3 [q : Hid (V → H → Prop)] : ∀ g : V × V × V × V × Unit → H → Prop, den IP c48_3 (Qx (fun e h => g ((fun e : E => ((e 0, e 3, e 26, e 27, ()) : V × V × V × V × Unit)) e) h) (@R48_3 q)) = fun e h => (fun (g : V × V × V × V × Unit → H → Prop) (x : V × V × V × V × Unit) h => @L48_3 x.1 x.2.1 x.2.2.1 x.2.2.2.1 h q ⟨fun y0 y3 y26 y27 h => g (y0, y3, y26, y27, ()) h⟩) g ((fun e : E => ((e 0, e 3, e 26, e 27, ()) : V × V × V × V × Unit)) e) h := fun g => @p48_3 q ⟨fun y0 y3 y26 y27 h => g (y0, y3, y26, y27, ()) h⟩
theorem w48_3 [q : Hid (V → H → Prop)] : den IP (.loop c48_3) (@R48_3 q) = fun e h => @W48_3 (e 0) (e 3) (e 26) (e 27) h q := loop_eq (fun e : E => ((e 0, e 3, e 26, e 27, ()) : V × V × V × V × Unit)) (fun (g : V × V × V × V × Unit → H → Prop) (x : V × V × V × V × Unit) h => @L48_3 x.1 x.2.1 x.2.2.1 x.2.2.2.1 h q ⟨fun y0 y3 y26 y27 h => g (y0, y3, y26, y27, ()) h⟩) (@n48_3 q)
theorem m48_3 [q : Hid (V → H → Prop)] : Mono (fun (g : V × V × V × V × Unit → H → Prop) (x : V × V × V × V × Unit) h => @L48_3 x.1 x.2.1 x.2.2.1 x.2.2.2.1 h q ⟨fun y0 y3 y26 y27 h => g (y0, y3, y26, y27, ()) h⟩) := mono_of (p := (fun e : E => ((e 0, e 3, e 26, e 27, ()) : V × V × V × V × Unit))) (fun x : V × V × V × V × Unit => upd (upd (upd (upd (fun _ => undefV) 27 (x.2.2.2.1)) 26 (x.2.2.1)) 3 (x.2.1)) 0 (x.1)) (fun _ => rfl) (@n48_3 q)
theorem W48_3_inv {q : Hid (V → H → Prop)} (I : Nat → V → V → V → V → H → Prop) (step : ∀ n x0 x3 x26 x27 h, I n x0 x3 x26 x27 h → @L48_3 x0 x3 x26 x27 h q ⟨fun y0 y3 y26 y27 h => ∃ m, m < n ∧ I m y0 y3 y26 y27 h⟩) (n : Nat) (x0 x3 x26 x27 : V) (h : H) (hi : I n x0 x3 x26 x27 h) : @W48_3 x0 x3 x26 x27 h q :=
  wFix_inv (@m48_3 q) (fun n x h => I n x.1 x.2.1 x.2.2.1 x.2.2.2.1 h) (fun n x h hi => step n x.1 x.2.1 x.2.2.1 x.2.2.2.1 h hi) n (x0, x3, x26, x27, ()) h hi
theorem W48_3_eq (x0 x3 x26 x27 : V) (h : H) {q : Hid (V → H → Prop)} : @W48_3 x0 x3 x26 x27 h q ↔ @L48_3 x0 x3 x26 x27 h q ⟨fun y0 y3 y26 y27 h => @W48_3 y0 y3 y26 y27 h q⟩ := wFix_unroll (@m48_3 q) (x0, x3, x26, x27, ()) h
def K48_1 (x0 x3 : V) (h : H) [q : Hid (V → H → Prop)] : Prop := @Bnd V (vFa 0 x3) ⟨fun v1 => @Bnd V (vLd1 h v1) ⟨fun v2 => @wF IP 97 [x0, v2, (.i .u64 0)] h ⟨fun v3 h4 => @Bnd V (vFa 1 x3) ⟨fun v5 => @Bnd V (vLd1 h4 v5) ⟨fun v6 => @W48_3 x0 x3 v6 (.i .i64 0) h4 q⟩⟩⟩⟩⟩
def J48_1 [q : Hid (V → H → Prop)] : E → H → Prop := fun e h => @K48_1 (e 0) (e 3) h q
theorem p48_1 [q : Hid (V → H → Prop)] : den IP c48_1 (@Q48_1 q) = (@J48_1 q) := by
  refine Eq.trans (seq_eq (seq_eq (@p48_2 q) (seq_eq (block_eq (@w48_3 q)) rfl)) rfl) ?_
  kernel_rfl
def Q48_6 [q : Hid (V → H → Prop)] : X → E → H → Prop := (Qx (@J48_1 q) (@Q48 q))
def K48_6 (x0 x3 x20 : V) (h : H) [q : Hid (V → H → Prop)] : Prop := @Sel x20 ⟨@Hid.un (V → H → Prop) q (.i .i64 1) h⟩ ⟨@K48_1 x0 x3 h q⟩
def J48_6 [q : Hid (V → H → Prop)] : E → H → Prop := fun e h => @K48_6 (e 0) (e 3) (e 20) h q
theorem p48_6 [q : Hid (V → H → Prop)] : den IP c48_6 (@Q48_6 q) = (@J48_6 q) := by kernel_rfl
def S48_10 [q : Hid (V → H → Prop)] : List (E × H) → E → H → Prop := (fun st e h => chkAll o48_9 ((e, h) :: st) 14 [(5, 8), (5, 11)] ((Qx (@J48_6 q) (Qx (@J48_1 q) (@Q48 q))) X.normal e h))
def K48_10 (k11_h : H) (k12_h : H) (k5_10 : V) (k5_11 : V) (k8_h : H) (k9_h : H) (x0 x3 x10 x19 : V) (h : H) [q : Hid (V → H → Prop)] : Prop := @Bnd V (vPick x10 (.b true) x19) ⟨fun v1 => @Chk (stdyG k5_10 false (stdy false 1 k5_11 k8_h k9_h)) ⟨@Chk (stdyG k5_10 false (stdy false 1 k5_11 k11_h k12_h)) ⟨@K48_6 x0 x3 v1 h q⟩⟩⟩
def J48_10 [q : Hid (V → H → Prop)] : List (E × H) → E → H → Prop := fun st e h => @K48_10 (List.getD st 1 eh0).2 (List.getD st 0 eh0).2 ((List.getD st 7 eh0).1 10) ((List.getD st 7 eh0).1 11) (List.getD st 4 eh0).2 (List.getD st 3 eh0).2 (e 0) (e 3) (e 10) (e 19) h q
theorem p48_10 [q : Hid (V → H → Prop)] : denT2 IP o48_7 (@S48_10 q) = (@J48_10 q) := by
  refine Eq.trans (tapp_eq rfl rfl) ?_
  kernel_rfl
def K48 (x0 x1 : V) (h : H) [q : Hid (V → H → Prop)] : Prop := @Bnd (V × H) (vBox x1 h) ⟨fun r1 => @Bnd V (vLdA r1.2 2 r1.1) ⟨fun v2 => @wF IP 95 [v2] r1.2 ⟨fun v3 h4 => @Bnd V (un .not v3) ⟨fun v5 => @Grd v5 false ⟨@Bnd V (vFa 0 r1.1) ⟨fun v6 => @Bnd V (vLd1 h4 v6) ⟨fun v7 => @Bnd V (vFa 1 r1.1) ⟨fun v8 => @Bnd V (vLd1 h4 v8) ⟨fun v9 => @wF IP 47 [v9] h4 ⟨fun v10 h11 => @Bnd V (bin .add v7 v10) ⟨fun v12 => @wF IP 96 [x0] h11 ⟨fun v13 h14 => @Bnd V (bin .gtr v12 v13) ⟨fun v15 => @K48_10 h11 h14 v5 v6 h4 h11 x0 r1.1 v5 v15 h14 q⟩⟩⟩⟩⟩⟩⟩⟩⟩ ⟨@K48_10 h4 h4 v5 undefV h4 h4 x0 r1.1 v5 undefV h4 q⟩⟩⟩⟩⟩
theorem p48 [q : Hid (V → H → Prop)] : den IP c48 (@Q48 q) = fun e h => @K48 (e 0) (e 1) h q := by
  refine Eq.trans (seq_eq (seq_eq (@p48_1 q) (seq_eq (@p48_6 q) (draw_eq (tapp_eq (tgrp_eq2 10 false rfl (@p48_10 q) rfl) rfl)))) rfl) ?_
  kernel_rfl
theorem f48 (a0 a1 : V) (h : H) (Q : V → H → Prop) : @wF IP 48 [a0, a1] h ⟨Q⟩ ↔ @K48 a0 a1 h ⟨Q⟩ := (Fnc_den (ip48) (by kernel_rfl) (by kernel_rfl) h Q).trans (iff_of_eq (congrFun (congrFun (@p48 ⟨Q⟩) _) h))
theorem ip49 : IP 49 = some ir49 := rfl
def Q49 [q : Hid (V → H → Prop)] : X → E → H → Prop := Qr rs49 q.un
def K49 (x0 x1 : V) (h : H) [q : Hid (V → H → Prop)] : Prop := @Bnd (V × H) (vBox x0 h) ⟨fun r1 => @Bnd (V × H) (some (.p (some (H.nx r1.2, 0)), H.new r1.2 ⟨false, [(.i .i64 0), (.i .i64 0), (.i .u64 0), (.i .u64 0), (.i .u64 0), (.i .u64 0), (.i .i64 0), (.b false)]⟩)) ⟨fun r2 => @Bnd V (vLdA r2.2 2 r1.1) ⟨fun v3 => @Bnd V (vBld [(.i .i64 0), (.i .i64 0), (.i .u64 0), (.i .u64 0), (.i .u64 0), (.i .u64 0), (.i .i64 0), (.b false)] [(0, 2, v3), (2, 1, x1)]) ⟨fun v4 => @Bnd (V × H) (vStore r2.2 8 r2.1 v4) ⟨fun r5 => @Bnd V (vLdA r5.2 8 r2.1) ⟨fun v6 => @Hid.un (V → H → Prop) q v6 r5.2⟩⟩⟩⟩⟩⟩
theorem p49 [q : Hid (V → H → Prop)] : den IP c49 (@Q49 q) = fun e h => @K49 (e 0) (e 1) h q := by kernel_rfl
theorem f49 (a0 a1 : V) (h : H) (Q : V → H → Prop) : @wF IP 49 [a0, a1] h ⟨Q⟩ ↔ @K49 a0 a1 h ⟨Q⟩ := (Fnc_den (ip49) (by kernel_rfl) (by kernel_rfl) h Q).trans (iff_of_eq (congrFun (congrFun (@p49 ⟨Q⟩) _) h))
theorem ip50 : IP 50 = some ir50 := rfl
def Q50 [q : Hid (V → H → Prop)] : X → E → H → Prop := Qr rs50 q.un
def K50 (x0 x1 : V) (h : H) [q : Hid (V → H → Prop)] : Prop := @Bnd (V × H) (vBox x0 h) ⟨fun r1 => @Bnd (V × H) (vBox x1 r1.2) ⟨fun r2 => @Bnd (V × H) (some (.p (some (H.nx r2.2, 0)), H.new r2.2 ⟨false, [(.i .i64 0), (.i .i64 0), (.i .u64 0), (.i .u64 0), (.i .u64 0), (.i .u64 0), (.i .i64 0), (.b false), (.b false)]⟩)) ⟨fun r3 => @Bnd V (vLdA r3.2 2 r1.1) ⟨fun v4 => @Bnd V (vLdA r3.2 3 r2.1) ⟨fun v5 => @Bnd V (vBld [(.i .i64 0), (.i .i64 0), (.i .u64 0), (.i .u64 0), (.i .u64 0), (.i .u64 0), (.i .i64 0), (.b false), (.b false)] [(0, 2, v4), (2, 3, v5)]) ⟨fun v6 => @Bnd (V × H) (vStore r3.2 9 r3.1 v6) ⟨fun r7 => @Bnd V (vLdA r7.2 9 r3.1) ⟨fun v8 => @Hid.un (V → H → Prop) q v8 r7.2⟩⟩⟩⟩⟩⟩⟩⟩
theorem p50 [q : Hid (V → H → Prop)] : den IP c50 (@Q50 q) = fun e h => @K50 (e 0) (e 1) h q := by kernel_rfl
theorem f50 (a0 a1 : V) (h : H) (Q : V → H → Prop) : @wF IP 50 [a0, a1] h ⟨Q⟩ ↔ @K50 a0 a1 h ⟨Q⟩ := (Fnc_den (ip50) (by kernel_rfl) (by kernel_rfl) h Q).trans (iff_of_eq (congrFun (congrFun (@p50 ⟨Q⟩) _) h))
theorem ip51 : IP 51 = some ir51 := rfl
def Q51 [q : Hid (V → H → Prop)] : X → E → H → Prop := Qr rs51 q.un
def K51 (x0 : V) (h : H) [q : Hid (V → H → Prop)] : Prop := @Bnd V (vEqz true .p x0 (.p none)) ⟨fun v1 => @Sel v1 ⟨@Bnd V (vNilc x0) ⟨fun v2 => @Bnd V (vFa 1 v2) ⟨fun v3 => @Bnd (V × H) (vStore h 1 v3 V.nsl) ⟨fun r4 => @Hid.un (V → H → Prop) q (.tup []) r4.2⟩⟩⟩⟩ ⟨@Hid.un (V → H → Prop) q (.tup []) h⟩⟩
theorem p51 [q : Hid (V → H → Prop)] : den IP c51 (@Q51 q) = fun e h => @K51 (e 0) h q := by kernel_rfl
theorem f51 (a0 : V) (h : H) (Q : V → H → Prop) : @wF IP 51 [a0] h ⟨Q⟩ ↔ @K51 a0 h ⟨Q⟩ := (Fnc_den (ip51) (by kernel_rfl) (by kernel_rfl) h Q).trans (iff_of_eq (congrFun (congrFun (@p51 ⟨Q⟩) _) h))
theorem ip52 : IP 52 = some ir52 := rfl
def Q52 [q : Hid (V → H → Prop)] : X → E → H → Prop := Qr rs52 q.un
def Q52_1 [q : Hid (V → H → Prop)] : X → E → H → Prop := (@Q52 q)
def K52_1 (x2 x4 : V) (h : H) [q : Hid (V → H → Prop)] : Prop := @Bnd V (vLdA h 9 x2) ⟨fun v1 => @Bnd (V × H) (vStore h 9 x4 v1) ⟨fun r2 => @Bnd V (vLdA r2.2 9 x4) ⟨fun v3 => @Hid.un (V → H → Prop) q v3 r2.2⟩⟩⟩
def J52_1 [q : Hid (V → H → Prop)] : E → H → Prop := fun e h => @K52_1 (e 2) (e 4) h q
theorem p52_1 [q : Hid (V → H → Prop)] : den IP c52_1 (@Q52_1 q) = (@J52_1 q) := by kernel_rfl
def K52 (x0 x1 : V) (h : H) [q : Hid (V → H → Prop)] : Prop := @Bnd (V × H) (vBox x0 h) ⟨fun r1 => @Bnd (V × H) (some (.p (some (H.nx r1.2, 0)), H.new r1.2 ⟨false, [(.i .i64 0), (.i .i64 0), (.i .u64 0), (.i .u64 0), (.i .u64 0), (.i .u64 0), (.i .i64 0), (.b false), (.b false)]⟩)) ⟨fun r2 => @Bnd V (vLdA r2.2 9 r1.1) ⟨fun v3 => @wF IP 53 [v3] r2.2 ⟨fun v4 h5 => @Bnd V (vExt v4 0) ⟨fun v6 => @Bnd V (vExt v4 1) ⟨fun v7 => @Sel v7 ⟨@Bnd V (vLdA h5 9 r1.1) ⟨fun v8 => @Bnd (V × H) (vStore h5 9 r2.1 v8) ⟨fun r9 => @Bnd V (vLdA r9.2 9 r2.1) ⟨fun v10 => @Hid.un (V → H → Prop) q v10 r9.2⟩⟩⟩⟩ ⟨@Bnd V (vFa 0 r1.1) ⟨fun v11 => @Bnd V (vLdA h5 2 v11) ⟨fun v12 => @wF IP 95 [v12] h5 ⟨fun v13 h14 => @Bnd V (un .not v13) ⟨fun v15 => @Sel v15 ⟨@Bnd V (vFa 8 r1.1) ⟨fun v16 => @Bnd (V × H) (vStore h14 1 v16 (.b true)) ⟨fun r17 => @Bnd V (vLdA r17.2 9 r1.1) ⟨fun v18 => @Bnd (V × H) (vStore r17.2 9 r2.1 v18) ⟨fun r19 => @Bnd V (vLdA r19.2 9 r2.1) ⟨fun v20 => @Hid.un (V → H → Prop) q v20 r19.2⟩⟩⟩⟩⟩⟩ ⟨@Bnd V (vFa 6 r1.1) ⟨fun v21 => @Bnd V (vLd1 h14 v21) ⟨fun v22 => @Bnd V (bin .eql v22 (.i .i64 0)) ⟨fun v23 => @Sel v23 ⟨@Bnd V (vFa 0 r1.1) ⟨fun v24 => @Bnd V (vLdA h14 2 v24) ⟨fun v25 => @wF IP 100 [v25] h14 ⟨fun v26 h27 => @wF IP 99 [x1, v26] h27 ⟨fun v28 h29 => @Bnd V (vFa 5 r1.1) ⟨fun v30 => @Bnd (V × H) (vStore h29 1 v30 v28) ⟨fun r31 => @Bnd V (vFa 6 r1.1) ⟨fun v32 => @Bnd (V × H) (vStore r31.2 1 v32 (.i .i64 1)) ⟨fun r33 => @K52_1 r1.1 r2.1 r33.2 q⟩⟩⟩⟩⟩⟩⟩⟩⟩ ⟨@Bnd V (bin .eql v22 (.i .i64 1)) ⟨fun v34 => @Sel v34 ⟨@Bnd V (vLdA h14 9 r1.1) ⟨fun v35 => @Bnd V (vFa 0 r1.1) ⟨fun v36 => @Bnd V (vLdA h14 2 v36) ⟨fun v37 => @Bnd V (vFa 5 r1.1) ⟨fun v38 => @Bnd V (vLd1 h14 v38) ⟨fun v39 => @wF IP 102 [v37, v39] h14 ⟨fun v40 h41 => @wF IP 99 [x1, v40] h41 ⟨fun v42 h43 => @wF IP 101 [v35, v42] h43 ⟨fun v44 h45 => @Bnd (V × H) (vStore h45 9 r1.1 v44) ⟨fun r46 => @Chk (stdy true 9 r1.1 h14 h41) ⟨@Chk (stdy true 9 r1.1 h41 h43) ⟨@K52_1 r1.1 r2.1 r46.2 q⟩⟩⟩⟩⟩⟩⟩⟩⟩⟩⟩⟩ ⟨@Bnd V (bin .eql v22 (.i .i64 2)) ⟨fun v47 => @Sel v47 ⟨@Bnd V (vFa 6 r1.1) ⟨fun v48 => @Bnd (V × H) (vStore h14 1 v48 (.i .i64 0)) ⟨fun r49 => @Bnd V (vFa 0 r1.1) ⟨fun v50 => @Bnd V (vLdA r49.2 2 v50) ⟨fun v51 => @wF IP 100 [v51] r49.2 ⟨fun v52 h53 => @Bnd V (vFa 5 r1.1) ⟨fun v54 => @Bnd V (vLd1 h53 v54) ⟨fun v55 => @Bnd V (vFa 5 r1.1) ⟨fun v56 => @Bnd V (vLd1 h53 v56) ⟨fun v57 => @Bnd V (bin .add v57 (.i .u64 1)) ⟨fun v58 => @wF IP 103 [x1, v52, v55, v58] h53 ⟨fun v59 h60 => @Chk (stdy false 1 v54 r49.2 h53) ⟨@Chk (stdy false 1 v56 r49.2 h53) ⟨@Sel v59 ⟨@Bnd V (vFa 6 r1.1) ⟨fun v61 => @Bnd (V × H) (vStore h60 1 v61 (.i .i64 3)) ⟨fun r62 => @K52_1 r1.1 r2.1 r62.2 q⟩⟩⟩ ⟨@K52_1 r1.1 r2.1 h60 q⟩⟩⟩⟩⟩⟩⟩⟩⟩⟩⟩⟩⟩⟩⟩ ⟨@Bnd V (bin .eql v22 (.i .i64 6)) ⟨fun v63 => @Sel v63 ⟨@Bnd V (vFa 0 r1.1) ⟨fun v64 => @Bnd V (vLdA h14 2 v64) ⟨fun v65 => @Bnd V (vFa 5 r1.1) ⟨fun v66 => @Bnd V (vLd1 h14 v66) ⟨fun v67 => @wF IP 102 [v65, v67] h14 ⟨fun v68 h69 => @Bnd V (vFa 5 r1.1) ⟨fun v70 => @Bnd V (vLd1 h69 v70) ⟨fun v71 => @Bnd V (bin .add v71 (.i .u64 1)) ⟨fun v72 => @wF IP 97 [x1, v68, v72] h69 ⟨fun v73 h74 => @Chk (stdy false 1 v70 h14 h69) ⟨@Bnd V (vFa 6 r1.1) ⟨fun v75 => @Bnd (V × H) (vStore h74 1 v75 (.i .i64 7)) ⟨fun r76 => @K52_1 r1.1 r2.1 r76.2 q⟩⟩⟩⟩⟩⟩⟩⟩⟩⟩⟩⟩⟩ ⟨@Bnd V (vFa 6 r1.1) ⟨fun v77 => @Bnd V (vLd1 h14 v77) ⟨fun v78 => @Bnd V (bin .sub v78 (.i .i64 3)) ⟨fun v79 => @Bnd V (vFa 0 r1.1) ⟨fun v80 => @Bnd V (vLdA h14 2 v80) ⟨fun v81 => @Bnd V (vFa 5 r1.1) ⟨fun v82 => @Bnd V (vLd1 h14 v82) ⟨fun v83 => @wF IP 104 [v81, v83, v79] h14 ⟨fun v84 h85 => @Bnd V (vFa 2 r1.1) ⟨fun v86 => @Bnd V (vIaa 1 3 v86 v79) ⟨fun v87 => @Bnd V (vLd1 h85 v87) ⟨fun v88 => @wF IP 97 [x1, v84, v88] h85 ⟨fun v89 h90 => @Chk (stdy false 1 v87 h14 h85) ⟨@Bnd V (vFa 6 r1.1) ⟨fun v91 => @Bnd V (vLd1 h90 v91) ⟨fun v92 => @Bnd V (bin .add v92 (.i .i64 1)) ⟨fun v93 => @Bnd V (vFa 6 r1.1) ⟨fun v94 => @Bnd (V × H) (vStore h90 1 v94 v93) ⟨fun r95 => @K52_1 r1.1 r2.1 r95.2 q⟩⟩⟩⟩⟩⟩⟩⟩⟩⟩⟩⟩⟩⟩⟩⟩⟩⟩⟩⟩⟩⟩⟩⟩⟩⟩⟩⟩⟩⟩⟩⟩⟩⟩⟩⟩⟩⟩⟩⟩
theorem p52 [q : Hid (V → H → Prop)] : den IP c52 (@Q52 q) = fun e h => @K52 (e 0) (e 1) h q := by
  refine Eq.trans (seq_eq (seq_eq (seq_eq (seq_eq (@p52_1 q) rfl) rfl) rfl) rfl) ?_
  kernel_rfl
theorem f52 (a0 a1 : V) (h : H) (Q : V → H → Prop) : @wF IP 52 [a0, a1] h ⟨Q⟩ ↔ @K52 a0 a1 h ⟨Q⟩ := (Fnc_den (ip52) (by kernel_rfl) (by kernel_rfl) h Q).trans (iff_of_eq (congrFun (congrFun (@p52 ⟨Q⟩) _) h))
theorem ip53 : IP 53 = some ir53 := rfl
def Q53 [q : Hid (V → H → Prop)] : X → E → H → Prop := Qr rs53 q.un
def K53 (x0 : V) (h : H) [q : Hid (V → H → Prop)] : Prop := @Bnd (V × H) (vBox x0 h) ⟨fun r1 => @Bnd V (vFa 8 r1.1) ⟨fun v2 => @Bnd V (vLd1 r1.2 v2) ⟨fun v3 => @Sel v3 ⟨@Hid.un (V → H → Prop) q (.tup [(.i .i64 3), (.b true)]) r1.2⟩ ⟨@Bnd V (vFa 6 r1.1) ⟨fun v4 => @Bnd V (vLd1 r1.2 v4) ⟨fun v5 => @Bnd V (bin .eql v5 (.i .i64 7)) ⟨fun v6 => @Sel v6 ⟨@Hid.un (V → H → Prop) q (.tup [(.i .i64 0), (.b true)]) r1.2⟩ ⟨@Hid.un (V → H → Prop) q (.tup [(.i .i64 0), (.b false)]) r1.2⟩⟩⟩⟩⟩⟩⟩⟩
theorem p53 [q : Hid (V → H → Prop)] : den IP c53 (@Q53 q) = fun e h => @K53 (e 0) h q := by kernel_rfl
theorem f53 (a0 : V) (h : H) (Q : V → H → Prop) : @wF IP 53 [a0] h ⟨Q⟩ ↔ @K53 a0 h ⟨Q⟩ := (Fnc_den (ip53) (by kernel_rfl) (by kernel_rfl) h Q).trans (iff_of_eq (congrFun (congrFun (@p53 ⟨Q⟩) _) h))
theorem ip54 : IP 54 = some ir54 := rfl
def Q54 [q : Hid (V → H → Prop)] : X → E → H → Prop := Qr rs54 q.un
def Q54_1 [q : Hid (V → H → Prop)] : X → E → H → Prop := (@Q54 q)
def K54_1 (x2 x4 : V) (h : H) [q : Hid (V → H → Prop)] : Prop := @Bnd V (vLdA h 8 x2) ⟨fun v1 => @Bnd (V × H) (vStore h 8 x4 v1) ⟨fun r2 => @Bnd V (vLdA r2.2 8 x4) ⟨fun v3 => @Hid.un (V → H → Prop) q v3 r2.2⟩⟩⟩
def J54_1 [q : Hid (V → H → Prop)] : E → H → Prop := fun e h => @K54_1 (e 2) (e 4) h q
theorem p54_1 [q : Hid (V → H → Prop)] : den IP c54_1 (@Q54_1 q) = (@J54_1 q) := by kernel_rfl
def K54 (x0 x1 : V) (h : H) [q : Hid (V → H → Prop)] : Prop := @Bnd (V × H) (vBox x0 h) ⟨fun r1 => @Bnd (V × H) (some (.p (some (H.nx r1.2, 0)), H.new r1.2 ⟨false, [(.i .i64 0), (.i .i64 0), (.i .u64 0), (.i .u64 0), (.i .u64 0), (.i .u64 0), (.i .i64 0), (.b false)]⟩)) ⟨fun r2 => @Bnd V (vLdA r2.2 8 r1.1) ⟨fun v3 => @wF IP 55 [v3] r2.2 ⟨fun v4 h5 => @Bnd V (vExt v4 0) ⟨fun v6 => @Bnd V (vExt v4 1) ⟨fun v7 => @Sel v7 ⟨@Bnd V (vLdA h5 8 r1.1) ⟨fun v8 => @Bnd (V × H) (vStore h5 8 r2.1 v8) ⟨fun r9 => @Bnd V (vLdA r9.2 8 r2.1) ⟨fun v10 => @Hid.un (V → H → Prop) q v10 r9.2⟩⟩⟩⟩ ⟨@Bnd V (vFa 0 r1.1) ⟨fun v11 => @Bnd V (vLdA h5 2 v11) ⟨fun v12 => @wF IP 95 [v12] h5 ⟨fun v13 h14 => @Bnd V (un .not v13) ⟨fun v15 => @Sel v15 ⟨@Bnd V (vFa 7 r1.1) ⟨fun v16 => @Bnd (V × H) (vStore h14 1 v16 (.b true)) ⟨fun r17 => @Bnd V (vLdA r17.2 8 r1.1) ⟨fun v18 => @Bnd (V × H) (vStore r17.2 8 r2.1 v18) ⟨fun r19 => @Bnd V (vLdA r19.2 8 r2.1) ⟨fun v20 => @Hid.un (V → H → Prop) q v20 r19.2⟩⟩⟩⟩⟩⟩ ⟨@Bnd V (vFa 6 r1.1) ⟨fun v21 => @Bnd V (vLd1 h14 v21) ⟨fun v22 => @Bnd V (bin .eql v22 (.i .i64 0)) ⟨fun v23 => @Sel v23 ⟨@Bnd V (vFa 0 r1.1) ⟨fun v24 => @Bnd V (vLdA h14 2 v24) ⟨fun v25 => @Bnd V (vFa 2 r1.1) ⟨fun v26 => @Bnd V (vLd1 h14 v26) ⟨fun v27 => @wF IP 102 [v25, v27] h14 ⟨fun v28 h29 => @wF IP 99 [x1, v28] h29 ⟨fun v30 h31 => @Bnd V (vFa 2 r1.1) ⟨fun v32 => @Bnd V (vLd1 h31 v32) ⟨fun v33 => @Bnd V (bin .add v33 (.i .u64 1)) ⟨fun v34 => @Bnd V (bin .eql v30 v34) ⟨fun v35 => @Chk (stdy false 1 v32 h14 h29) ⟨@Chk (stdy false 1 v32 h29 h31) ⟨@Sel v35 ⟨@Bnd V (vFa 6 r1.1) ⟨fun v36 => @Bnd (V × H) (vStore h31 1 v36 (.i .i64 1)) ⟨fun r37 => @K54_1 r1.1 r2.1 r37.2 q⟩⟩⟩ ⟨@Bnd V (vFa 7 r1.1) ⟨fun v38 => @Bnd (V × H) (vStore h31 1 v38 (.b true)) ⟨fun r39 => @K54_1 r1.1 r2.1 r39.2 q⟩⟩⟩⟩⟩⟩⟩⟩⟩⟩⟩⟩⟩⟩⟩⟩ ⟨@Bnd V (bin .eql v22 (.i .i64 4)) ⟨fun v40 => @Sel v40 ⟨@Bnd V (vFa 0 r1.1) ⟨fun v41 => @Bnd V (vLdA h14 2 v41) ⟨fun v42 => @Bnd V (vFa 2 r1.1) ⟨fun v43 => @Bnd V (vLd1 h14 v43) ⟨fun v44 => @wF IP 102 [v42, v44] h14 ⟨fun v45 h46 => @Bnd V (vFa 2 r1.1) ⟨fun v47 => @Bnd V (vLd1 h46 v47) ⟨fun v48 => @Bnd V (vFa 0 r1.1) ⟨fun v49 => @Bnd V (vFa 1 v49) ⟨fun v50 => @Bnd V (vLd1 h46 v50) ⟨fun v51 => @Bnd V (vCvi .u64 v51) ⟨fun v52 => @Bnd V (bin .add v48 v52) ⟨fun v53 => @wF IP 97 [x1, v45, v53] h46 ⟨fun v54 h55 => @Chk (stdy false 1 v47 h14 h46) ⟨@Chk (stdy false 1 v50 h14 h46) ⟨@Bnd V (vFa 6 r1.1) ⟨fun v56 => @Bnd (V × H) (vStore h55 1 v56 (.i .i64 5)) ⟨fun r57 => @K54_1 r1.1 r2.1 r57.2 q⟩⟩⟩⟩⟩⟩⟩⟩⟩⟩⟩⟩⟩⟩⟩⟩⟩⟩ ⟨@Bnd V (vFa 6 r1.1) ⟨fun v58 => @Bnd V (vLd1 h14 v58) ⟨fun v59 => @Bnd V (bin .sub v59 (.i .i64 1)) ⟨fun v60 => @Bnd V (vFa 0 r1.1) ⟨fun v61 => @Bnd V (vLdA h14 2 v61) ⟨fun v62 => @Bnd V (vFa 2 r1.1) ⟨fun v63 => @Bnd V (vLd1 h14 v63) ⟨fun v64 => @wF IP 104 [v62, v64, v60] h14 ⟨fun v65 h66 => @wF IP 99 [x1, v65] h66 ⟨fun v67 h68 => @Bnd V (vFa 3 r1.1) ⟨fun v69 => @Bnd V (vIaa 1 3 v69 v60) ⟨fun v70 => @Bnd (V × H) (vStore h68 1 v70 v67) ⟨fun r71 => @Bnd V (vFa 6 r1.1) ⟨fun v72 => @Bnd V (vLd1 r71.2 v72) ⟨fun v73 => @Bnd V (bin .add v73 (.i .i64 1)) ⟨fun v74 => @Bnd V (vFa 6 r1.1) ⟨fun v75 => @Bnd (V × H) (vStore r71.2 1 v75 v74) ⟨fun r76 => @K54_1 r1.1 r2.1 r76.2 q⟩⟩⟩⟩⟩⟩⟩⟩⟩⟩⟩⟩⟩⟩⟩⟩⟩⟩⟩⟩⟩⟩⟩⟩⟩⟩⟩⟩⟩⟩⟩⟩⟩⟩⟩
theorem p54 [q : Hid (V → H → Prop)] : den IP c54 (@Q54 q) = fun e h => @K54 (e 0) (e 1) h q := by
  refine Eq.trans (seq_eq (seq_eq (seq_eq (seq_eq (@p54_1 q) rfl) rfl) rfl) rfl) ?_
  kernel_rfl
theorem f54 (a0 a1 : V) (h : H) (Q : V → H → Prop) : @wF IP 54 [a0, a1] h ⟨Q⟩ ↔ @K54 a0 a1 h ⟨Q⟩ := (Fnc_den (ip54) (by kernel_rfl) (by kernel_rfl) h Q).trans (iff_of_eq (congrFun (congrFun (@p54 ⟨Q⟩) _) h))
theorem ip55 : IP 55 = some ir55 := rfl
def Q55 [q : Hid (V → H → Prop)] : X → E → H → Prop := Qr rs55 q.un
def K55 (x0 : V) (h : H) [q : Hid (V → H → Prop)] : Prop := @Bnd (V × H) (vBox x0 h) ⟨fun r1 => @Bnd V (vFa 7 r1.1) ⟨fun v2 => @Bnd V (vLd1 r1.2 v2) ⟨fun v3 => @Sel v3 ⟨@Hid.un (V → H → Prop) q (.tup [(.i .i64 4), (.b true)]) r1.2⟩ ⟨@Bnd V (vFa 6 r1.1) ⟨fun v4 => @Bnd V (vLd1 r1.2 v4) ⟨fun v5 => @Bnd V (bin .eql v5 (.i .i64 5)) ⟨fun v6 => @Sel v6 ⟨@Hid.un (V → H → Prop) q (.tup [(.i .i64 0), (.b true)]) r1.2⟩ ⟨@Hid.un (V → H → Prop) q (.tup [(.i .i64 0), (.b false)]) r1.2⟩⟩⟩⟩⟩⟩⟩⟩
theorem p55 [q : Hid (V → H → Prop)] : den IP c55 (@Q55 q) = fun e h => @K55 (e 0) h q := by kernel_rfl
theorem f55 (a0 : V) (h : H) (Q : V → H → Prop) : @wF IP 55 [a0] h ⟨Q⟩ ↔ @K55 a0 h ⟨Q⟩ := (Fnc_den (ip55) (by kernel_rfl) (by kernel_rfl) h Q).trans (iff_of_eq (congrFun (congrFun (@p55 ⟨Q⟩) _) h))
theorem ip56 : IP 56 = some ir56 := rfl
def Q56 [q : Hid (V → H → Prop)] : X → E → H → Prop := Qr rs56 q.un
def K56 (x0 : V) (h : H) [q : Hid (V → H → Prop)] : Prop := @Bnd (V × H) (vBox x0 h) ⟨fun r1 => @Bnd (V × H) (some (.p (some (H.nx r1.2, 0)), H.new r1.2 ⟨false, [(.i .u64 0), (.i .u64 0), (.i .u64 0)]⟩)) ⟨fun r2 => @Bnd V (vFa 6 r1.1) ⟨fun v3 => @Bnd V (vLd1 r2.2 v3) ⟨fun v4 => @Bnd V (bin .neq v4 (.i .i64 5)) ⟨fun v5 => @Sel v5 ⟨@Bnd V (vBld [(.i .u64 0), (.i .u64 0), (.i .u64 0)] []) ⟨fun v6 => @Bnd (V × H) (vStore r2.2 3 r2.1 v6) ⟨fun r7 => @Bnd V (vLdA r7.2 3 r2.1) ⟨fun v8 => @Hid.un (V → H → Prop) q v8 r7.2⟩⟩⟩⟩ ⟨@Bnd V (vFa 3 r1.1) ⟨fun v9 => @Bnd V (vLdA r2.2 3 v9) ⟨fun v10 => @Bnd (V × H) (vStore r2.2 3 r2.1 v10) ⟨fun r11 => @Bnd V (vLdA r11.2 3 r2.1) ⟨fun v12 => @Hid.un (V → H → Prop) q v12 r11.2⟩⟩⟩⟩⟩⟩⟩⟩⟩⟩
theorem p56 [q : Hid (V → H → Prop)] : den IP c56 (@Q56 q) = fun e h => @K56 (e 0) h q := by kernel_rfl
theorem f56 (a0 : V) (h : H) (Q : V → H → Prop) : @wF IP 56 [a0] h ⟨Q⟩ ↔ @K56 a0 h ⟨Q⟩ := (Fnc_den (ip56) (by kernel_rfl) (by kernel_rfl) h Q).trans (iff_of_eq (congrFun (congrFun (@p56 ⟨Q⟩) _) h))
theorem ip57 : IP 57 = some ir57 := rfl
def Q57 [q : Hid (V → H → Prop)] : X → E → H → Prop := Qr rs57 q.un
def K57 (x0 : V) (h : H) [q : Hid (V → H → Prop)] : Prop := @Bnd V (vEqz false .p x0 (.p none)) ⟨fun v1 => @Sel v1 ⟨@Hid.un (V → H → Prop) q V.nsl h⟩ ⟨@Bnd V (vNilc x0) ⟨fun v2 => @Bnd V (vFa 1 v2) ⟨fun v3 => @Bnd V (vLd1 h v3) ⟨fun v4 => @wF IP 105 [v4] h ⟨fun v5 h6 => @Hid.un (V → H → Prop) q v5 h6⟩⟩⟩⟩⟩⟩
theorem p57 [q : Hid (V → H → Prop)] : den IP c57 (@Q57 q) = fun e h => @K57 (e 0) h q := by kernel_rfl
theorem f57 (a0 : V) (h : H) (Q : V → H → Prop) : @wF IP 57 [a0] h ⟨Q⟩ ↔ @K57 a0 h ⟨Q⟩ := (Fnc_den (ip57) (by kernel_rfl) (by kernel_rfl) h Q).trans (iff_of_eq (congrFun (congrFun (@p57 ⟨Q⟩) _) h))
theorem ip58 : IP 58 = some ir58 := rfl
def Q58 [q : Hid (V → H → Prop)] : X → E → H → Prop := Qr rs58 q.un
def S58_12 [q : Hid (V → H → Prop)] : E → H → Prop := ((Qx (den IP .ret (@Q58 q)) (@Q58 q)) X.normal)
def K58_12 (x49 x52 : V) (h : H) [q : Hid (V → H → Prop)] : Prop := @Bnd V (vPick x49 x52 (.b false)) ⟨fun v1 => @Hid.un (V → H → Prop) q v1 h⟩
def J58_12 [q : Hid (V → H → Prop)] : E → H → Prop := fun e h => @K58_12 (e 49) (e 52) h q
theorem p58_12 [q : Hid (V → H → Prop)] : denOps IP o58_1 (@S58_12 q) = (@J58_12 q) := by
  refine Eq.trans (app_eq rfl rfl) ?_
  kernel_rfl
def S58_13 [q : Hid (V → H → Prop)] : E → H → Prop := ((Qx (den IP .ret (@Q58 q)) (@Q58 q)) X.normal)
def K58_13 (x1 x2 x43 x47 : V) (h : H) [q : Hid (V → H → Prop)] : Prop := @Bnd V (vPick x43 x47 (.b false)) ⟨fun v1 => @Grd v1 true ⟨@Bnd V (vLdA h 2 x2) ⟨fun v2 => @wF IP 106 [x1, v2, (.i .u64 2)] h ⟨fun v3 h4 => @K58_12 v1 v3 h4 q⟩⟩⟩ ⟨@K58_12 v1 undefV h q⟩⟩
def J58_13 [q : Hid (V → H → Prop)] : E → H → Prop := fun e h => @K58_13 (e 1) (e 2) (e 43) (e 47) h q
theorem p58_13 [q : Hid (V → H → Prop)] : denOps IP o58_3 (@S58_13 q) = (@J58_13 q) := by
  refine Eq.trans (app_eq (grp_eq2 49 true rfl (@p58_12 q) rfl) rfl) ?_
  kernel_rfl
def S58_14 [q : Hid (V → H → Prop)] : E → H → Prop := ((Qx (den IP .ret (@Q58 q)) (@Q58 q)) X.normal)
def K58_14 (x1 x2 x4 x39 x41 : V) (h : H) [q : Hid (V → H → Prop)] : Prop := @Bnd V (vPick x39 x41 (.b false)) ⟨fun v1 => @Grd v1 true ⟨@Bnd V (vLdA h 8 x4) ⟨fun v2 => @wF IP 56 [v2] h ⟨fun v3 h4 => @Bnd V (vBld [(.i .u64 0), (.i .u64 0), (.i .u64 0)] [(0, 1, (.i .u64 1)), (1, 1, (.i .u64 2)), (2, 1, (.i .u64 3))]) ⟨fun v5 => @Bnd V (vEqa false [.i, .i, .i] v3 v5) ⟨fun v6 => @K58_13 x1 x2 v1 v6 h4 q⟩⟩⟩⟩⟩ ⟨@K58_13 x1 x2 v1 undefV h q⟩⟩
def J58_14 [q : Hid (V → H → Prop)] : E → H → Prop := fun e h => @K58_14 (e 1) (e 2) (e 4) (e 39) (e 41) h q
theorem p58_14 [q : Hid (V → H → Prop)] : denOps IP o58_5 (@S58_14 q) = (@J58_14 q) := by
  refine Eq.trans (app_eq (grp_eq2 43 true rfl (@p58_13 q) rfl) rfl) ?_
  kernel_rfl
def S58_15 [q : Hid (V → H → Prop)] : E → H → Prop := ((Qx (den IP .ret (@Q58 q)) (@Q58 q)) X.normal)
def K58_15 (x1 x2 x4 x6 x36 x37 : V) (h : H) [q : Hid (V → H → Prop)] : Prop := @Bnd V (vPick x36 x37 (.b false)) ⟨fun v1 => @Grd v1 true ⟨@Bnd V (bin .eql x6 (.i .i64 0)) ⟨fun v2 => @K58_14 x1 x2 x4 v1 v2 h q⟩⟩ ⟨@K58_14 x1 x2 x4 v1 undefV h q⟩⟩
def J58_15 [q : Hid (V → H → Prop)] : E → H → Prop := fun e h => @K58_15 (e 1) (e 2) (e 4) (e 6) (e 36) (e 37) h q
theorem p58_15 [q : Hid (V → H → Prop)] : denOps IP o58_7 (@S58_15 q) = (@J58_15 q) := by
  refine Eq.trans (app_eq (grp_eq2 39 true rfl (@p58_14 q) rfl) rfl) ?_
  kernel_rfl
def S58_16 [q : Hid (V → H → Prop)] : E → H → Prop := ((Qx (den IP .ret (@Q58 q)) (@Q58 q)) X.normal)
def K58_16 (x1 x2 x4 x6 x7 x32 x34 : V) (h : H) [q : Hid (V → H → Prop)] : Prop := @Bnd V (vPick x32 x34 (.b false)) ⟨fun v1 => @Grd v1 true ⟨@K58_15 x1 x2 x4 x6 v1 x7 h q⟩ ⟨@K58_15 x1 x2 x4 x6 v1 undefV h q⟩⟩
def J58_16 [q : Hid (V → H → Prop)] : E → H → Prop := fun e h => @K58_16 (e 1) (e 2) (e 4) (e 6) (e 7) (e 32) (e 34) h q
theorem p58_16 [q : Hid (V → H → Prop)] : denOps IP o58_9 (@S58_16 q) = (@J58_16 q) := by
  refine Eq.trans (app_eq (grp_eq2 36 true rfl (@p58_15 q) rfl) rfl) ?_
  kernel_rfl
def K58 (h : H) [q : Hid (V → H → Prop)] : Prop := @wF IP 46 [(.i .i64 9)] h ⟨fun v1 h2 => @Bnd V (vBld [(.i .i64 0), (.i .i64 0)] [(1, 1, (.i .i64 2))]) ⟨fun v3 => @Bnd (V × H) (some (.p (some (H.nx h2, 0)), H.new h2 ⟨false, [(.i .i64 0), (.i .i64 0)]⟩)) ⟨fun r4 => @Bnd (V × H) (vStore r4.2 2 r4.1 v3) ⟨fun r5 => @Bnd V (vLdA r5.2 2 r4.1) ⟨fun v6 => @wF IP 48 [v1, v6] r5.2 ⟨fun v7 h8 => @Bnd V (vLdA h8 2 r4.1) ⟨fun v9 => @Bnd V (vBld [(.i .u64 0), (.i .u64 0), (.i .u64 0)] [(0, 1, (.i .u64 1)), (1, 1, (.i .u64 2)), (2, 1, (.i .u64 3))]) ⟨fun v10 => @wF IP 50 [v9, v10] h8 ⟨fun v11 h12 => @wF IP 59 [v1, v11] h12 ⟨fun v13 h14 => @Bnd V (vLdA h14 2 r4.1) ⟨fun v15 => @wF IP 49 [v15, (.i .u64 0)] h14 ⟨fun v16 h17 => @wF IP 60 [v1, v16] h17 ⟨fun v18 h19 => @Bnd V (vExt v18 0) ⟨fun v20 => @Bnd V (vExt v18 1) ⟨fun v21 => @Bnd (V × H) (some (.p (some (H.nx h19, 0)), H.new h19 ⟨false, [(.i .i64 0), (.i .i64 0), (.i .u64 0), (.i .u64 0), (.i .u64 0), (.i .u64 0), (.i .i64 0), (.b false)]⟩)) ⟨fun r22 => @Bnd (V × H) (vStore r22.2 8 r22.1 v20) ⟨fun r23 => @Bnd V (vLdA r23.2 8 r22.1) ⟨fun v24 => @wF IP 55 [v24] r23.2 ⟨fun v25 h26 => @Bnd V (vExt v25 0) ⟨fun v27 => @Bnd V (vExt v25 1) ⟨fun v28 => @Bnd V (bin .eql v7 (.i .i64 0)) ⟨fun v29 => @Grd v29 true ⟨@Bnd V (bin .eql v21 (.i .i64 5)) ⟨fun v30 => @K58_16 v1 r4.1 r22.1 v27 v28 v29 v30 h26 q⟩⟩ ⟨@K58_16 v1 r4.1 r22.1 v27 v28 v29 undefV h26 q⟩⟩⟩⟩⟩⟩⟩⟩⟩⟩⟩⟩⟩⟩⟩⟩⟩⟩⟩⟩⟩⟩⟩
theorem p58 [q : Hid (V → H → Prop)] : den IP c58 (@Q58 q) = fun e h => @K58 h q := by
  refine Eq.trans (seq_eq (seq_eq (seq_eq (seq_eq (seq_eq (seq_eq (seq_eq (seq_eq rfl (region_eq (app_eq (grp_eq2 32 true rfl (@p58_16 q) rfl) rfl))) rfl) rfl) rfl) rfl) rfl) rfl) rfl) ?_
  kernel_rfl
theorem f58 (h : H) (Q : V → H → Prop) : @wF IP 58 [] h ⟨Q⟩ ↔ @K58 h ⟨Q⟩ := (Fnc_den (ip58) (by kernel_rfl) (by kernel_rfl) h Q).trans (iff_of_eq (congrFun (congrFun (@p58 ⟨Q⟩) _) h))
theorem ip59 : IP 59 = some ir59 := rfl
def Q59 [q : Hid (V → H → Prop)] : X → E → H → Prop := Qr rs59 q.un
def Q59_1 [q : Hid (V → H → Prop)] : X → E → H → Prop := (@Q59 q)
def K59_1 (x4 x5 : V) (h : H) [q : Hid (V → H → Prop)] : Prop := @Bnd V (vLdA h 9 x4) ⟨fun v1 => @Bnd (V × H) (vStore h 9 x4 v1) ⟨fun r2 => @Bnd V (vLdA r2.2 9 x4) ⟨fun v3 => @Hid.un (V → H → Prop) q (.tup [v3, x5]) r2.2⟩⟩⟩
def J59_1 [q : Hid (V → H → Prop)] : E → H → Prop := fun e h => @K59_1 (e 4) (e 5) h q
theorem p59_1 [q : Hid (V → H → Prop)] : den IP c59_1 (@Q59_1 q) = (@J59_1 q) := by kernel_rfl
def R59_2 [q : Hid (V → H → Prop)] : X → E → H → Prop := (Qb 0 (Qx (@J59_1 q) (@Q59 q)))
def Q59_2 [q : Hid (V → H → Prop)] [g59_2 : Hid (V → V → V → H → Prop)] : X → E → H → Prop := Qx (fun e h => g59_2.un (e 0) (e 4) (e 5) h) (@R59_2 q)
def L59_2 (x0 x4 x5 : V) (h : H) [q : Hid (V → H → Prop)] [g59_2 : Hid (V → V → V → H → Prop)] : Prop := @Bnd V (bin .lss x5 (.i .i64 40)) ⟨fun v1 => @Sel v1 ⟨@Bnd V (vLdA h 9 x4) ⟨fun v2 => @wF IP 53 [v2] h ⟨fun v3 h4 => @Bnd V (vExt v3 0) ⟨fun v5 => @Bnd V (vExt v3 1) ⟨fun v6 => @Sel v6 ⟨@Bnd V (vLdA h4 9 x4) ⟨fun v7 => @Bnd (V × H) (vStore h4 9 x4 v7) ⟨fun r8 => @Bnd V (vLdA r8.2 9 x4) ⟨fun v9 => @Hid.un (V → H → Prop) q (.tup [v9, x5]) r8.2⟩⟩⟩⟩ ⟨@wF IP 51 [x0] h4 ⟨fun v10 h11 => @Bnd V (vLdA h11 9 x4) ⟨fun v12 => @wF IP 52 [v12, x0] h11 ⟨fun v13 h14 => @Bnd (V × H) (vStore h14 9 x4 v13) ⟨fun r15 => @wF IP 57 [x0] r15.2 ⟨fun v16 h17 => @Bnd V (vLens v16) ⟨fun v18 => @Bnd V (bin .neq v18 (.i .i64 1)) ⟨fun v19 => @Sel v19 ⟨@Bnd V (vLdA h17 9 x4) ⟨fun v20 => @Bnd (V × H) (vStore h17 9 x4 v20) ⟨fun r21 => @Bnd V (vLdA r21.2 9 x4) ⟨fun v22 => @Hid.un (V → H → Prop) q (.tup [v22, (.i .i64 (-1))]) r21.2⟩⟩⟩⟩ ⟨@Bnd V (bin .add x5 (.i .i64 1)) ⟨fun v23 => @Hid.un (V → V → V → H → Prop) g59_2 x0 x4 v23 h17⟩⟩⟩⟩⟩⟩⟩⟩⟩⟩⟩⟩⟩⟩⟩ ⟨@K59_1 x4 x5 h q⟩⟩
theorem p59_2 [q : Hid (V → H → Prop)] [g59_2 : Hid (V → V → V → H → Prop)] : den IP c59_2 (@Q59_2 q g59_2) = fun e h => @L59_2 (e 0) (e 4) (e 5) h q g59_2 := by kernel_rfl
def W59_2 (x0 x4 x5 : V) (h : H) [q : Hid (V → H → Prop)] : Prop := wFix (fun (g : V × V × V × Unit → H → Prop) (x : V × V × V × Unit) h => @L59_2 x.1 x.2.1 x.2.2.1 h q ⟨fun y0 y4 y5 h => g (y0, y4, y5, ()) h⟩) (x0, x4, x5, ()) h
theorem n59_2 [q : Hid (V → H → Prop)] : ∀ g : V × V × V × Unit → H → Prop, den IP c59_2 (Qx (fun e h => g ((fun e : E => ((e 0, e 4, e 5, ()) : V × V × V × Unit)) e) h) (@R59_2 q)) = fun e h => (fun (g : V × V × V × Unit → H → Prop) (x : V × V × V × Unit) h => @L59_2 x.1 x.2.1 x.2.2.1 h q ⟨fun y0 y4 y5 h => g (y0, y4, y5, ()) h⟩) g ((fun e : E => ((e 0, e 4, e 5, ()) : V × V × V × Unit)) e) h := fun g => @p59_2 q ⟨fun y0 y4 y5 h => g (y0, y4, y5, ()) h⟩
theorem w59_2 [q : Hid (V → H → Prop)] : den IP (.loop c59_2) (@R59_2 q) = fun e h => @W59_2 (e 0) (e 4) (e 5) h q := loop_eq (fun e : E => ((e 0, e 4, e 5, ()) : V × V × V × Unit)) (fun (g : V × V × V × Unit → H → Prop) (x : V × V × V × Unit) h => @L59_2 x.1 x.2.1 x.2.2.1 h q ⟨fun y0 y4 y5 h => g (y0, y4, y5, ()) h⟩) (@n59_2 q)
theorem m59_2 [q : Hid (V → H → Prop)] : Mono (fun (g : V × V × V × Unit → H → Prop) (x : V × V × V × Unit) h => @L59_2 x.1 x.2.1 x.2.2.1 h q ⟨fun y0 y4 y5 h => g (y0, y4, y5, ()) h⟩) := mono_of (p := (fun e : E => ((e 0, e 4, e 5, ()) : V × V × V × Unit))) (fun x : V × V × V × Unit => upd (upd (upd (fun _ => undefV) 5 (x.2.2.1)) 4 (x.2.1)) 0 (x.1)) (fun _ => rfl) (@n59_2 q)
theorem W59_2_inv {q : Hid (V → H → Prop)} (I : Nat → V → V → V → H → Prop) (step : ∀ n x0 x4 x5 h, I n x0 x4 x5 h → @L59_2 x0 x4 x5 h q ⟨fun y0 y4 y5 h => ∃ m, m < n ∧ I m y0 y4 y5 h⟩) (n : Nat) (x0 x4 x5 : V) (h : H) (hi : I n x0 x4 x5 h) : @W59_2 x0 x4 x5 h q :=
  wFix_inv (@m59_2 q) (fun n x h => I n x.1 x.2.1 x.2.2.1 h) (fun n x h hi => step n x.1 x.2.1 x.2.2.1 h hi) n (x0, x4, x5, ()) h hi
theorem W59_2_eq (x0 x4 x5 : V) (h : H) {q : Hid (V → H → Prop)} : @W59_2 x0 x4 x5 h q ↔ @L59_2 x0 x4 x5 h q ⟨fun y0 y4 y5 h => @W59_2 y0 y4 y5 h q⟩ := wFix_unroll (@m59_2 q) (x0, x4, x5, ()) h
def K59 (x0 x1 : V) (h : H) [q : Hid (V → H → Prop)] : Prop := @Bnd (V × H) (vBox x1 h) ⟨fun r1 => @Bnd (V × H) (some (.p (some (H.nx r1.2, 0)), H.new r1.2 ⟨false, [(.i .i64 0), (.i .i64 0), (.i .u64 0), (.i .u64 0), (.i .u64 0), (.i .u64 0), (.i .i64 0), (.b false), (.b false)]⟩)) ⟨fun r2 => @Bnd V (vLdA r2.2 9 r1.1) ⟨fun v3 => @Bnd (V × H) (vStore r2.2 9 r2.1 v3) ⟨fun r4 => @W59_2 x0 r2.1 (.i .i64 0) r4.2 q⟩⟩⟩⟩
theorem p59 [q : Hid (V → H → Prop)] : den IP c59 (@Q59 q) = fun e h => @K59 (e 0) (e 1) h q := by
  refine Eq.trans (seq_eq (seq_eq (@p59_1 q) (seq_eq (block_eq (@w59_2 q)) rfl)) rfl) ?_
  kernel_rfl
theorem f59 (a0 a1 : V) (h : H) (Q : V → H → Prop) : @wF IP 59 [a0, a1] h ⟨Q⟩ ↔ @K59 a0 a1 h ⟨Q⟩ := (Fnc_den (ip59) (by kernel_rfl) (by kernel_rfl) h Q).trans (iff_of_eq (congrFun (congrFun (@p59 ⟨Q⟩) _) h))
theorem ip60 : IP 60 = some ir60 := rfl
def Q60 [q : Hid (V → H → Prop)] : X → E → H → Prop := Qr rs60 q.un
def Q60_1 [q : Hid (V → H → Prop)] : X → E → H → Prop := (@Q60 q)
def K60_1 (x4 x5 : V) (h : H) [q : Hid (V → H → Prop)] : Prop := @Bnd V (vLdA h 8 x4) ⟨fun v1 => @Bnd (V × H) (vStore h 8 x4 v1) ⟨fun r2 => @Bnd V (vLdA r2.2 8 x4) ⟨fun v3 => @Hid.un (V → H → Prop) q (.tup [v3, x5]) r2.2⟩⟩⟩
def J60_1 [q : Hid (V → H → Prop)] : E → H → Prop := fun e h => @K60_1 (e 4) (e 5) h q
theorem p60_1 [q : Hid (V → H → Prop)] : den IP c60_1 (@Q60_1 q) = (@J60_1 q) := by kernel_rfl
def R60_2 [q : Hid (V → H → Prop)] : X → E → H → Prop := (Qb 0 (Qx (@J60_1 q) (@Q60 q)))
def Q60_2 [q : Hid (V → H → Prop)] [g60_2 : Hid (V → V → V → H → Prop)] : X → E → H → Prop := Qx (fun e h => g60_2.un (e 0) (e 4) (e 5) h) (@R60_2 q)
def L60_2 (x0 x4 x5 : V) (h : H) [q : Hid (V → H → Prop)] [g60_2 : Hid (V → V → V → H → Prop)] : Prop := @Bnd V (bin .lss x5 (.i .i64 40)) ⟨fun v1 => @Sel v1 ⟨@Bnd V (vLdA h 8 x4) ⟨fun v2 => @wF IP 55 [v2] h ⟨fun v3 h4 => @Bnd V (vExt v3 0) ⟨fun v5 => @Bnd V (vExt v3 1) ⟨fun v6 => @Sel v6 ⟨@Bnd V (vLdA h4 8 x4) ⟨fun v7 => @Bnd (V × H) (vStore h4 8 x4 v7) ⟨fun r8 => @Bnd V (vLdA r8.2 8 x4) ⟨fun v9 => @Hid.un (V → H → Prop) q (.tup [v9, x5]) r8.2⟩⟩⟩⟩ ⟨@wF IP 51 [x0] h4 ⟨fun v10 h11 => @Bnd V (vLdA h11 8 x4) ⟨fun v12 => @wF IP 54 [v12, x0] h11 ⟨fun v13 h14 => @Bnd (V × H) (vStore h14 8 x4 v13) ⟨fun r15 => @wF IP 57 [x0] r15.2 ⟨fun v16 h17 => @Bnd V (vLens v16) ⟨fun v18 => @Bnd V (bin .neq v18 (.i .i64 1)) ⟨fun v19 => @Sel v19 ⟨@Bnd V (vLdA h17 8 x4) ⟨fun v20 => @Bnd (V × H) (vStore h17 8 x4 v20) ⟨fun r21 => @Bnd V (vLdA r21.2 8 x4) ⟨fun v22 => @Hid.un (V → H → Prop) q (.tup [v22, (.i .i64 (-1))]) r21.2⟩⟩⟩⟩ ⟨@Bnd V (bin .add x5 (.i .i64 1)) ⟨fun v23 => @Hid.un (V → V → V → H → Prop) g60_2 x0 x4 v23 h17⟩⟩⟩⟩⟩⟩⟩⟩⟩⟩⟩⟩⟩⟩⟩ ⟨@K60_1 x4 x5 h q⟩⟩
theorem p60_2 [q : Hid (V → H → Prop)] [g60_2 : Hid (V → V → V → H → Prop)] : den IP c60_2 (@Q60_2 q g60_2) = fun e h => @L60_2 (e 0) (e 4) (e 5) h q g60_2 := by kernel_rfl
def W60_2 (x0 x4 x5 : V) (h : H) [q : Hid (V → H → Prop)] : Prop := wFix (fun (g : V × V × V × Unit → H → Prop) (x : V × V × V × Unit) h => @L60_2 x.1 x.2.1 x.2.2.1 h q ⟨fun y0 y4 y5 h => g (y0, y4, y5, ()) h⟩) (x0, x4, x5, ()) h
theorem n60_2 [q : Hid (V → H → Prop)] : ∀ g : V × V × V × Unit → H → Prop, den IP c60_2 (Qx (fun e h => g ((fun e : E => ((e 0, e 4, e 5, ()) : V × V × V × Unit)) e) h) (@R60_2 q)) = fun e h => (fun (g : V × V × V × Unit → H → Prop) (x : V × V × V × Unit) h => @L60_2 x.1 x.2.1 x.2.2.1 h q ⟨fun y0 y4 y5 h => g (y0, y4, y5, ()) h⟩) g ((fun e : E => ((e 0, e 4, e 5, ()) : V × V × V × Unit)) e) h := fun g => @p60_2 q ⟨fun y0 y4 y5 h => g (y0, y4, y5, ()) h⟩
theorem w60_2 [q : Hid (V → H → Prop)] : den IP (.loop c60_2) (@R60_2 q) = fun e h => @W60_2 (e 0) (e 4) (e 5) h q := loop_eq (fun e : E => ((e 0, e 4, e 5, ()) : V × V × V × Unit)) (fun (g : V × V × V × Unit → H → Prop) (x : V × V × V × Unit) h => @L60_2 x.1 x.2.1 x.2.2.1 h q ⟨fun y0 y4 y5 h => g (y0, y4, y5, ()) h⟩) (@n60_2 q)
theorem m60_2 [q : Hid (V → H → Prop)] : Mono (fun (g : V × V × V × Unit → H → Prop) (x : V × V × V × Unit) h => @L60_2 x.1 x.2.1 x.2.2.1 h q ⟨fun y0 y4 y5 h => g (y0, y4, y5, ()) h⟩) := mono_of (p := (fun e : E => ((e 0, e 4, e 5, ()) : V × V × V × Unit))) (fun x : V × V × V × Unit => upd (upd (upd (fun _ => undefV) 5 (x.2.2.1)) 4 (x.2.1)) 0 (x.1)) (fun _ => rfl) (@n60_2 q)
theorem W60_2_inv {q : Hid (V → H → Prop)} (I : Nat → V → V → V → H → Prop) (step : ∀ n x0 x4 x5 h, I n x0 x4 x5 h → @L60_2 x0 x4 x5 h q ⟨fun y0 y4 y5 h => ∃ m, m < n ∧ I m y0 y4 y5 h⟩) (n : Nat) (x0 x4 x5 : V) (h : H) (hi : I n x0 x4 x5 h) : @W60_2 x0 x4 x5 h q :=
  wFix_inv (@m60_2 q) (fun n x h => I n x.1 x.2.1 x.2.2.1 h) (fun n x h hi => step n x.1 x.2.1 x.2.2.1 h hi) n (x0, x4, x5, ()) h hi
theorem W60_2_eq (x0 x4 x5 : V) (h : H) {q : Hid (V → H → Prop)} : @W60_2 x0 x4 x5 h q ↔ @L60_2 x0 x4 x5 h q ⟨fun y0 y4 y5 h => @W60_2 y0 y4 y5 h q⟩ := wFix_unroll (@m60_2 q) (x0, x4, x5, ()) h
def K60 (x0 x1 : V) (h : H) [q : Hid (V → H → Prop)] : Prop := @Bnd (V × H) (vBox x1 h) ⟨fun r1 => @Bnd (V × H) (some (.p (some (H.nx r1.2, 0)), H.new r1.2 ⟨false, [(.i .i64 0), (.i .i64 0), (.i .u64 0), (.i .u64 0), (.i .u64 0), (.i .u64 0), (.i .i64 0), (.b false)]⟩)) ⟨fun r2 => @Bnd V (vLdA r2.2 8 r1.1) ⟨fun v3 => @Bnd (V × H) (vStore r2.2 8 r2.1 v3) ⟨fun r4 => @W60_2 x0 r2.1 (.i .i64 0) r4.2 q⟩⟩⟩⟩
theorem p60 [q : Hid (V → H → Prop)] : den IP c60 (@Q60 q) = fun e h => @K60 (e 0) (e 1) h q := by
  refine Eq.trans (seq_eq (seq_eq (@p60_1 q) (seq_eq (block_eq (@w60_2 q)) rfl)) rfl) ?_
  kernel_rfl
theorem f60 (a0 a1 : V) (h : H) (Q : V → H → Prop) : @wF IP 60 [a0, a1] h ⟨Q⟩ ↔ @K60 a0 a1 h ⟨Q⟩ := (Fnc_den (ip60) (by kernel_rfl) (by kernel_rfl) h Q).trans (iff_of_eq (congrFun (congrFun (@p60 ⟨Q⟩) _) h))
theorem ip61 : IP 61 = some ir61 := rfl
def Q61 [q : Hid (V → H → Prop)] : X → E → H → Prop := Qr rs61 q.un
def S61_4 [q : Hid (V → H → Prop)] : E → H → Prop := ((Qx (den IP .ret (@Q61 q)) (@Q61 q)) X.normal)
def K61_4 (x6 x9 : V) (h : H) [q : Hid (V → H → Prop)] : Prop := @Bnd V (vPick x6 x9 (.b false)) ⟨fun v1 => @Hid.un (V → H → Prop) q v1 h⟩
def J61_4 [q : Hid (V → H → Prop)] : E → H → Prop := fun e h => @K61_4 (e 6) (e 9) h q
theorem p61_4 [q : Hid (V → H → Prop)] : denOps IP o61_1 (@S61_4 q) = (@J61_4 q) := by
  refine Eq.trans (app_eq rfl rfl) ?_
  kernel_rfl
def K61 (x0 : V) (h : H) [q : Hid (V → H → Prop)] : Prop := @Bnd (V × H) (vBox x0 h) ⟨fun r1 => @Bnd V (vFa 7 r1.1) ⟨fun v2 => @Bnd V (vLd1 r1.2 v2) ⟨fun v3 => @Bnd V (un .not v3) ⟨fun v4 => @Grd v4 true ⟨@Bnd V (vFa 6 r1.1) ⟨fun v5 => @Bnd V (vLd1 r1.2 v5) ⟨fun v6 => @Bnd V (bin .gtr v6 (.i .i64 0)) ⟨fun v7 => @K61_4 v4 v7 r1.2 q⟩⟩⟩⟩ ⟨@K61_4 v4 undefV r1.2 q⟩⟩⟩⟩⟩
theorem p61 [q : Hid (V → H → Prop)] : den IP c61 (@Q61 q) = fun e h => @K61 (e 0) h q := by
  refine Eq.trans (seq_eq (seq_eq rfl (region_eq (app_eq (grp_eq2 6 true rfl (@p61_4 q) rfl) rfl))) rfl) ?_
  kernel_rfl
theorem f61 (a0 : V) (h : H) (Q : V → H → Prop) : @wF IP 61 [a0] h ⟨Q⟩ ↔ @K61 a0 h ⟨Q⟩ := (Fnc_den (ip61) (by kernel_rfl) (by kernel_rfl) h Q).trans (iff_of_eq (congrFun (congrFun (@p61 ⟨Q⟩) _) h))
theorem ip62 : IP 62 = some ir62 := rfl
def Q62 [q : Hid (V → H → Prop)] : X → E → H → Prop := Qr rs62 q.un
def Q62_1 [q : Hid (V → H → Prop)] : X → E → H → Prop := (@Q62 q)
def K62_1 (x7 : V) (h : H) [q : Hid (V → H → Prop)] : Prop := @Hid.un (V → H → Prop) q x7 h
def J62_1 [q : Hid (V → H → Prop)] : E → H → Prop := fun e h => @K62_1 (e 7) h q
theorem p62_1 [q : Hid (V → H → Prop)] : den IP c62_1 (@Q62_1 q) = (@J62_1 q) := by kernel_rfl
def R62_2 [q : Hid (V → H → Prop)] : X → E → H → Prop := (Qb 0 (Qx (@J62_1 q) (@Q62 q)))
def Q62_2 [q : Hid (V → H → Prop)] [g62_2 : Hid (V → V → V → V → H → Prop)] : X → E → H → Prop := Qx (fun e h => g62_2.un (e 0) (e 2) (e 4) (e 7) h) (@R62_2 q)
def Q62_3 [q : Hid (V → H → Prop)] [g62_2 : Hid (V → V → V → V → H → Prop)] : X → E → H → Prop := (@Q62_2 q g62_2)
def K62_3 (x0 x2 x4 x7 : V) (h : H) [q : Hid (V → H → Prop)] [g62_2 : Hid (V → V → V → V → H → Prop)] : Prop := @Bnd V (bin .add x7 (.i .i64 1)) ⟨fun v1 => @Hid.un (V → V → V → V → H → Prop) g62_2 x0 x2 x4 v1 h⟩
def J62_3 [q : Hid (V → H → Prop)] [g62_2 : Hid (V → V → V → V → H → Prop)] : E → H → Prop := fun e h => @K62_3 (e 0) (e 2) (e 4) (e 7) h q g62_2
theorem p62_3 [q : Hid (V → H → Prop)] [g62_2 : Hid (V → V → V → V → H → Prop)] : den IP c62_3 (@Q62_3 q g62_2) = (@J62_3 q g62_2) := by kernel_rfl
def Q62_4 [q : Hid (V → H → Prop)] [g62_2 : Hid (V → V → V → V → H → Prop)] : X → E → H → Prop := (Qx (@J62_3 q g62_2) (@Q62_2 q g62_2))
def K62_4 (x0 x2 x4 x7 x20 : V) (h : H) [q : Hid (V → H → Prop)] [g62_2 : Hid (V → V → V → V → H → Prop)] : Prop := @Sel x20 ⟨@K62_3 x0 x2 x4 x7 h q g62_2⟩ ⟨@K62_1 x7 h q⟩
def J62_4 [q : Hid (V → H → Prop)] [g62_2 : Hid (V → V → V → V → H → Prop)] : E → H → Prop := fun e h => @K62_4 (e 0) (e 2) (e 4) (e 7) (e 20) h q g62_2
theorem p62_4 [q : Hid (V → H → Prop)] [g62_2 : Hid (V → V → V → V → H → Prop)] : den IP c62_4 (@Q62_4 q g62_2) = (@J62_4 q g62_2) := by kernel_rfl
def S62_8 [q : Hid (V → H → Prop)] [g62_2 : Hid (V → V → V → V → H → Prop)] : E → H → Prop := ((Qx (@J62_4 q g62_2) (Qx (@J62_3 q g62_2) (@Q62_2 q g62_2))) X.normal)
def K62_8 (x0 x2 x4 x7 x12 x19 : V) (h : H) [q : Hid (V → H → Prop)] [g62_2 : Hid (V → V → V → V → H → Prop)] : Prop := @Bnd V (vPick x12 x19 (.b false)) ⟨fun v1 => @K62_4 x0 x2 x4 x7 v1 h q g62_2⟩
def J62_8 [q : Hid (V → H → Prop)] [g62_2 : Hid (V → V → V → V → H → Prop)] : E → H → Prop := fun e h => @K62_8 (e 0) (e 2) (e 4) (e 7) (e 12) (e 19) h q g62_2
theorem p62_8 [q : Hid (V → H → Prop)] [g62_2 : Hid (V → V → V → V → H → Prop)] : denOps IP o62_5 (@S62_8 q g62_2) = (@J62_8 q g62_2) := by
  refine Eq.trans (app_eq rfl rfl) ?_
  kernel_rfl
def L62_2 (x0 x2 x4 x7 : V) (h : H) [q : Hid (V → H → Prop)] [g62_2 : Hid (V → V → V → V → H → Prop)] : Prop := @Bnd V (vFa 1 x4) ⟨fun v1 => @Bnd V (vLd1 h v1) ⟨fun v2 => @Bnd V (bin .lss x7 v2) ⟨fun v3 => @Grd v3 true ⟨@Bnd V (vLdA h 2 x4) ⟨fun v4 => @Bnd V (vCvi .u64 x7) ⟨fun v5 => @Bnd V (bin .add x2 v5) ⟨fun v6 => @wF IP 107 [x0, v4, v6] h ⟨fun v7 h8 => @K62_8 x0 x2 x4 x7 v3 v7 h8 q g62_2⟩⟩⟩⟩⟩ ⟨@K62_8 x0 x2 x4 x7 v3 undefV h q g62_2⟩⟩⟩⟩
theorem p62_2 [q : Hid (V → H → Prop)] [g62_2 : Hid (V → V → V → V → H → Prop)] : den IP c62_2 (@Q62_2 q g62_2) = fun e h => @L62_2 (e 0) (e 2) (e 4) (e 7) h q g62_2 := by
  refine Eq.trans (seq_eq (@p62_3 q g62_2) (seq_eq (@p62_4 q g62_2) (region_eq (app_eq (grp_eq2 12 true rfl (@p62_8 q g62_2) rfl) rfl)))) ?_
  kernel_rfl
def W62_2 (x0 x2 x4 x7 : V) (h : H) [q : Hid (V → H → Prop)] : Prop := wFix (fun (g : V × V × V × V × Unit → H → Prop) (x : V × V × V × V × Unit) h => @L62_2 x.1 x.2.1 x.2.2.1 x.2.2.2.1 h q ⟨fun y0 y2 y4 y7 h => g (y0, y2, y4, y7, ()) h⟩) (x0, x2, x4, x7, ()) h
theorem n62_2 [q : Hid (V → H → Prop)] : ∀ g : V × V × V × V × Unit → H → Prop, den IP c62_2 (Qx (fun e h => g ((fun e : E => ((e 0, e 2, e 4, e 7, ()) : V × V × V × V × Unit)) e) h) (@R62_2 q)) = fun e h => (fun (g : V × V × V × V × Unit → H → Prop) (x : V × V × V × V × Unit) h => @L62_2 x.1 x.2.1 x.2.2.1 x.2.2.2.1 h q ⟨fun y0 y2 y4 y7 h => g (y0, y2, y4, y7, ()) h⟩) g ((fun e : E => ((e 0, e 2, e 4, e 7, ()) : V × V × V × V × Unit)) e) h := fun g => @p62_2 q ⟨fun y0 y2 y4 y7 h => g (y0, y2, y4, y7, ()) h⟩
theorem w62_2 [q : Hid (V → H → Prop)] : den IP (.loop c62_2) (@R62_2 q) = fun e h => @W62_2 (e 0) (e 2) (e 4) (e 7) h q := loop_eq (fun e : E => ((e 0, e 2, e 4, e 7, ()) : V × V × V × V × Unit)) (fun (g : V × V × V × V × Unit → H → Prop) (x : V × V × V × V × Unit) h => @L62_2 x.1 x.2.1 x.2.2.1 x.2.2.2.1 h q ⟨fun y0 y2 y4 y7 h => g (y0, y2, y4, y7, ()) h⟩) (@n62_2 q)
theorem m62_2 [q : Hid (V → H → Prop)] : Mono (fun (g : V × V × V × V × Unit → H → Prop) (x : V × V × V × V × Unit) h => @L62_2 x.1 x.2.1 x.2.2.1 x.2.2.2.1 h q ⟨fun y0 y2 y4 y7 h => g (y0, y2, y4, y7, ()) h⟩) := mono_of (p := (fun e : E => ((e 0, e 2, e 4, e 7, ()) : V × V × V × V × Unit))) (fun x : V × V × V × V × Unit => upd (upd (upd (upd (fun _ => undefV) 7 (x.2.2.2.1)) 4 (x.2.2.1)) 2 (x.2.1)) 0 (x.1)) (fun _ => rfl) (@n62_2 q)
theorem W62_2_inv {q : Hid (V → H → Prop)} (I : Nat → V → V → V → V → H → Prop) (step : ∀ n x0 x2 x4 x7 h, I n x0 x2 x4 x7 h → @L62_2 x0 x2 x4 x7 h q ⟨fun y0 y2 y4 y7 h => ∃ m, m < n ∧ I m y0 y2 y4 y7 h⟩) (n : Nat) (x0 x2 x4 x7 : V) (h : H) (hi : I n x0 x2 x4 x7 h) : @W62_2 x0 x2 x4 x7 h q :=
  wFix_inv (@m62_2 q) (fun n x h => I n x.1 x.2.1 x.2.2.1 x.2.2.2.1 h) (fun n x h hi => step n x.1 x.2.1 x.2.2.1 x.2.2.2.1 h hi) n (x0, x2, x4, x7, ()) h hi
theorem W62_2_eq (x0 x2 x4 x7 : V) (h : H) {q : Hid (V → H → Prop)} : @W62_2 x0 x2 x4 x7 h q ↔ @L62_2 x0 x2 x4 x7 h q ⟨fun y0 y2 y4 y7 h => @W62_2 y0 y2 y4 y7 h q⟩ := wFix_unroll (@m62_2 q) (x0, x2, x4, x7, ()) h
def K62 (x0 x1 x2 : V) (h : H) [q : Hid (V → H → Prop)] : Prop := @Bnd (V × H) (vBox x1 h) ⟨fun r1 => @W62_2 x0 x2 r1.1 (.i .i64 0) r1.2 q⟩
theorem p62 [q : Hid (V → H → Prop)] : den IP c62 (@Q62 q) = fun e h => @K62 (e 0) (e 1) (e 2) h q := by
  refine Eq.trans (seq_eq (seq_eq (seq_eq (@p62_1 q) (block_eq (@w62_2 q))) rfl) rfl) ?_
  kernel_rfl
theorem f62 (a0 a1 a2 : V) (h : H) (Q : V → H → Prop) : @wF IP 62 [a0, a1, a2] h ⟨Q⟩ ↔ @K62 a0 a1 a2 h ⟨Q⟩ := (Fnc_den (ip62) (by kernel_rfl) (by kernel_rfl) h Q).trans (iff_of_eq (congrFun (congrFun (@p62 ⟨Q⟩) _) h))
theorem ip95 : IP 95 = some ir95 := rfl
def Q95 [q : Hid (V → H → Prop)] : X → E → H → Prop := Qr rs95 q.un
def S95_10 [q : Hid (V → H → Prop)] : List (E × H) → E → H → Prop := (fun st e h => chkAll o95_9 ((e, h) :: st) 27 [(20, 22)] ((Qx (den IP .ret (@Q95 q)) (@Q95 q)) X.normal e h))
def K95_10 (k20_24 : V) (k20_25 : V) (k22_h : H) (k23_h : H) (x24 x30 : V) (h : H) [q : Hid (V → H → Prop)] : Prop := @Bnd V (vPick x24 x30 (.b false)) ⟨fun v1 => @Chk (stdyG k20_24 true (stdy false 1 k20_25 k22_h k23_h)) ⟨@Hid.un (V → H → Prop) q v1 h⟩⟩
def J95_10 [q : Hid (V → H → Prop)] : List (E × H) → E → H → Prop := fun st e h => @K95_10 ((List.getD st 4 eh0).1 24) ((List.getD st 4 eh0).1 25) (List.getD st 2 eh0).2 (List.getD st 1 eh0).2 (e 24) (e 30) h q
theorem p95_10 [q : Hid (V → H → Prop)] : denT2 IP o95_1 (@S95_10 q) = (@J95_10 q) := by
  refine Eq.trans (tapp_eq rfl rfl) ?_
  kernel_rfl
def S95_11 [q : Hid (V → H → Prop)] : List (E × H) → E → H → Prop := (fun st e h => chkAll o95_9 ((e, h) :: st) 27 [(20, 22)] ((Qx (den IP .ret (@Q95 q)) (@Q95 q)) X.normal e h))
def K95_11 (x1 x3 x19 x22 : V) (h : H) [q : Hid (V → H → Prop)] : Prop := @Bnd V (vPick x19 x22 (.b false)) ⟨fun v1 => @Grd v1 true ⟨@Bnd V (vFa 0 x1) ⟨fun v2 => @Bnd V (vLd1 h v2) ⟨fun v3 => @wF IP 47 [x3] h ⟨fun v4 h5 => @Bnd V (bin .sub (.i .i64 16384) v4) ⟨fun v6 => @Bnd V (bin .leq v3 v6) ⟨fun v7 => @K95_10 v1 v2 h h5 v1 v7 h5 q⟩⟩⟩⟩⟩⟩ ⟨@K95_10 v1 undefV h h v1 undefV h q⟩⟩
def J95_11 [q : Hid (V → H → Prop)] : List (E × H) → E → H → Prop := fun st e h => @K95_11 (e 1) (e 3) (e 19) (e 22) h q
theorem p95_11 [q : Hid (V → H → Prop)] : denT2 IP o95_3 (@S95_11 q) = (@J95_11 q) := by
  refine Eq.trans (tapp_eq (tgrp_eq2 24 true rfl (@p95_10 q) rfl) rfl) ?_
  kernel_rfl
def S95_12 [q : Hid (V → H → Prop)] : List (E × H) → E → H → Prop := (fun st e h => chkAll o95_9 ((e, h) :: st) 27 [(20, 22)] ((Qx (den IP .ret (@Q95 q)) (@Q95 q)) X.normal e h))
def K95_12 (x1 x3 x12 x17 : V) (h : H) [q : Hid (V → H → Prop)] : Prop := @Bnd V (vPick x12 x17 (.b false)) ⟨fun v1 => @Grd v1 true ⟨@Bnd V (vFa 0 x1) ⟨fun v2 => @Bnd V (vLd1 h v2) ⟨fun v3 => @Bnd V (bin .geq v3 (.i .i64 0)) ⟨fun v4 => @K95_11 x1 x3 v1 v4 h q⟩⟩⟩⟩ ⟨@K95_11 x1 x3 v1 undefV h q⟩⟩
def J95_12 [q : Hid (V → H → Prop)] : List (E × H) → E → H → Prop := fun st e h => @K95_12 (e 1) (e 3) (e 12) (e 17) h q
theorem p95_12 [q : Hid (V → H → Prop)] : denT2 IP o95_5 (@S95_12 q) = (@J95_12 q) := by
  refine Eq.trans (tapp_eq (tgrp_eq2 19 true rfl (@p95_11 q) rfl) rfl) ?_
  kernel_rfl
def S95_13 [q : Hid (V → H → Prop)] : List (E × H) → E → H → Prop := (fun st e h => chkAll o95_9 ((e, h) :: st) 27 [(20, 22)] ((Qx (den IP .ret (@Q95 q)) (@Q95 q)) X.normal e h))
def K95_13 (x1 x3 x8 x10 : V) (h : H) [q : Hid (V → H → Prop)] : Prop := @Bnd V (vPick x8 x10 (.b false)) ⟨fun v1 => @Grd v1 true ⟨@Bnd V (bin .sub x3 (.i .i64 1)) ⟨fun v2 => @Bnd V (bin .and x3 v2) ⟨fun v3 => @Bnd V (bin .eql v3 (.i .i64 0)) ⟨fun v4 => @K95_12 x1 x3 v1 v4 h q⟩⟩⟩⟩ ⟨@K95_12 x1 x3 v1 undefV h q⟩⟩
def J95_13 [q : Hid (V → H → Prop)] : List (E × H) → E → H → Prop := fun st e h => @K95_13 (e 1) (e 3) (e 8) (e 10) h q
theorem p95_13 [q : Hid (V → H → Prop)] : denT2 IP o95_7 (@S95_13 q) = (@J95_13 q) := by
  refine Eq.trans (tapp_eq (tgrp_eq2 12 true rfl (@p95_12 q) rfl) rfl) ?_
  kernel_rfl
def K95 (x0 : V) (h : H) [q : Hid (V → H → Prop)] : Prop := @Bnd (V × H) (vBox x0 h) ⟨fun r1 => @Bnd V (vFa 1 r1.1) ⟨fun v2 => @Bnd V (vLd1 r1.2 v2) ⟨fun v3 => @Bnd V (bin .geq v3 (.i .i64 2)) ⟨fun v4 => @Grd v4 true ⟨@Bnd V (bin .leq v3 (.i .i64 64)) ⟨fun v5 => @K95_13 r1.1 v3 v4 v5 r1.2 q⟩⟩ ⟨@K95_13 r1.1 v3 v4 undefV r1.2 q⟩⟩⟩⟩⟩
theorem p95 [q : Hid (V → H → Prop)] : den IP c95 (@Q95 q) = fun e h => @K95 (e 0) h q := by
  refine Eq.trans (seq_eq (seq_eq (seq_eq rfl (draw_eq (tapp_eq (tgrp_eq2 8 true rfl (@p95_13 q) rfl) rfl))) rfl) rfl) ?_
  kernel_rfl
theorem f95 (a0 : V) (h : H) (Q : V → H → Prop) : @wF IP 95 [a0] h ⟨Q⟩ ↔ @K95 a0 h ⟨Q⟩ := (Fnc_den (ip95) (by kernel_rfl) (by kernel_rfl) h Q).trans (iff_of_eq (congrFun (congrFun (@p95 ⟨Q⟩) _) h))
theorem ip96 : IP 96 = some ir96 := rfl
def Q96 [q : Hid (V → H → Prop)] : X → E → H → Prop := Qr rs96 q.un
def K96 (x0 : V) (h : H) [q : Hid (V → H → Prop)] : Prop := @Bnd V (vEqz false .p x0 (.p none)) ⟨fun v1 => @Sel v1 ⟨@Hid.un (V → H → Prop) q (.i .i64 0) h⟩ ⟨@Bnd V (vNilc x0) ⟨fun v2 => @Bnd V (vFa 0 v2) ⟨fun v3 => @Bnd V (vLd1 h v3) ⟨fun v4 => @Bnd V (vLens v4) ⟨fun v5 => @Hid.un (V → H → Prop) q v5 h⟩⟩⟩⟩⟩⟩
theorem p96 [q : Hid (V → H → Prop)] : den IP c96 (@Q96 q) = fun e h => @K96 (e 0) h q := by kernel_rfl
theorem f96 (a0 : V) (h : H) (Q : V → H → Prop) : @wF IP 96 [a0] h ⟨Q⟩ ↔ @K96 a0 h ⟨Q⟩ := (Fnc_den (ip96) (by kernel_rfl) (by kernel_rfl) h Q).trans (iff_of_eq (congrFun (congrFun (@p96 ⟨Q⟩) _) h))
theorem ip97 : IP 97 = some ir97 := rfl
def Q97 [q : Hid (V → H → Prop)] : X → E → H → Prop := Qr rs97 q.un
def K97 (x0 x1 x2 : V) (h : H) [q : Hid (V → H → Prop)] : Prop := @wF IP 133 [x0, x1] h ⟨fun v1 h2 => @Sel v1 ⟨@Bnd V (vNilc x0) ⟨fun v3 => @Bnd V (vFa 0 v3) ⟨fun v4 => @Bnd V (vLd1 h2 v4) ⟨fun v5 => @Bnd V (vIa 1 v5 x1) ⟨fun v6 => @Bnd (V × H) (vStore h2 1 v6 x2) ⟨fun r7 => @Hid.un (V → H → Prop) q (.tup []) r7.2⟩⟩⟩⟩⟩⟩ ⟨@Hid.un (V → H → Prop) q (.tup []) h2⟩⟩
theorem p97 [q : Hid (V → H → Prop)] : den IP c97 (@Q97 q) = fun e h => @K97 (e 0) (e 1) (e 2) h q := by kernel_rfl
theorem f97 (a0 a1 a2 : V) (h : H) (Q : V → H → Prop) : @wF IP 97 [a0, a1, a2] h ⟨Q⟩ ↔ @K97 a0 a1 a2 h ⟨Q⟩ := (Fnc_den (ip97) (by kernel_rfl) (by kernel_rfl) h Q).trans (iff_of_eq (congrFun (congrFun (@p97 ⟨Q⟩) _) h))
theorem ip98 : IP 98 = some ir98 := rfl
def Q98 [q : Hid (V → H → Prop)] : X → E → H → Prop := Qr rs98 q.un
def K98 (x0 x1 : V) (h : H) [q : Hid (V → H → Prop)] : Prop := @Bnd (V × H) (vBox x0 h) ⟨fun r1 => @Bnd V (vFa 0 r1.1) ⟨fun v2 => @Bnd V (vLd1 r1.2 v2) ⟨fun v3 => @Bnd V (bin .add v3 (.i .i64 1)) ⟨fun v4 => @Bnd V (vFa 1 r1.1) ⟨fun v5 => @Bnd V (vLd1 r1.2 v5) ⟨fun v6 => @Bnd V (vCvi .u64 v6) ⟨fun v7 => @Bnd V (bin .rem x1 v7) ⟨fun v8 => @Bnd V (vCvi .i64 v8) ⟨fun v9 => @Bnd V (bin .mul v9 (.i .i64 4)) ⟨fun v10 => @Bnd V (bin .add v4 v10) ⟨fun v11 => @Hid.un (V → H → Prop) q v11 r1.2⟩⟩⟩⟩⟩⟩⟩⟩⟩⟩⟩
theorem p98 [q : Hid (V → H → Prop)] : den IP c98 (@Q98 q) = fun e h => @K98 (e 0) (e 1) h q := by kernel_rfl
theorem f98 (a0 a1 : V) (h : H) (Q : V → H → Prop) : @wF IP 98 [a0, a1] h ⟨Q⟩ ↔ @K98 a0 a1 h ⟨Q⟩ := (Fnc_den (ip98) (by kernel_rfl) (by kernel_rfl) h Q).trans (iff_of_eq (congrFun (congrFun (@p98 ⟨Q⟩) _) h))
theorem ip99 : IP 99 = some ir99 := rfl
def Q99 [q : Hid (V → H → Prop)] : X → E → H → Prop := Qr rs99 q.un
def K99 (x0 x1 : V) (h : H) [q : Hid (V → H → Prop)] : Prop := @wF IP 133 [x0, x1] h ⟨fun v1 h2 => @Bnd V (un .not v1) ⟨fun v3 => @Sel v3 ⟨@Hid.un (V → H → Prop) q (.i .u64 0) h2⟩ ⟨@Bnd V (vNilc x0) ⟨fun v4 => @Bnd V (vFa 0 v4) ⟨fun v5 => @Bnd V (vLd1 h2 v5) ⟨fun v6 => @Bnd V (vIa 1 v6 x1) ⟨fun v7 => @Bnd V (vLd1 h2 v7) ⟨fun v8 => @Hid.un (V → H → Prop) q v8 h2⟩⟩⟩⟩⟩⟩⟩⟩
theorem p99 [q : Hid (V → H → Prop)] : den IP c99 (@Q99 q) = fun e h => @K99 (e 0) (e 1) h q := by kernel_rfl
theorem f99 (a0 a1 : V) (h : H) (Q : V → H → Prop) : @wF IP 99 [a0, a1] h ⟨Q⟩ ↔ @K99 a0 a1 h ⟨Q⟩ := (Fnc_den (ip99) (by kernel_rfl) (by kernel_rfl) h Q).trans (iff_of_eq (congrFun (congrFun (@p99 ⟨Q⟩) _) h))
theorem ip100 : IP 100 = some ir100 := rfl
def Q100 [q : Hid (V → H → Prop)] : X → E → H → Prop := Qr rs100 q.un
def K100 (x0 : V) (h : H) [q : Hid (V → H → Prop)] : Prop := @Bnd (V × H) (vBox x0 h) ⟨fun r1 => @Bnd V (vLdA r1.2 2 r1.1) ⟨fun v2 => @wF IP 95 [v2] r1.2 ⟨fun v3 h4 => @Bnd V (un .not v3) ⟨fun v5 => @Sel v5 ⟨@Hid.un (V → H → Prop) q (.i .i64 (-1)) h4⟩ ⟨@Bnd V (vFa 0 r1.1) ⟨fun v6 => @Bnd V (vLd1 h4 v6) ⟨fun v7 => @Hid.un (V → H → Prop) q v7 h4⟩⟩⟩⟩⟩⟩⟩
theorem p100 [q : Hid (V → H → Prop)] : den IP c100 (@Q100 q) = fun e h => @K100 (e 0) h q := by kernel_rfl
theorem f100 (a0 : V) (h : H) (Q : V → H → Prop) : @wF IP 100 [a0] h ⟨Q⟩ ↔ @K100 a0 h ⟨Q⟩ := (Fnc_den (ip100) (by kernel_rfl) (by kernel_rfl) h Q).trans (iff_of_eq (congrFun (congrFun (@p100 ⟨Q⟩) _) h))
theorem ip101 : IP 101 = some ir101 := rfl
def Q101 [q : Hid (V → H → Prop)] : X → E → H → Prop := Qr rs101 q.un
def Q101_1 [q : Hid (V → H → Prop)] : X → E → H → Prop := (@Q101 q)
def K101_1 (x2 x4 : V) (h : H) [q : Hid (V → H → Prop)] : Prop := @Bnd V (vLdA h 9 x2) ⟨fun v1 => @Bnd (V × H) (vStore h 9 x4 v1) ⟨fun r2 => @Bnd V (vLdA r2.2 9 x4) ⟨fun v3 => @Hid.un (V → H → Prop) q v3 r2.2⟩⟩⟩
def J101_1 [q : Hid (V → H → Prop)] : E → H → Prop := fun e h => @K101_1 (e 2) (e 4) h q
theorem p101_1 [q : Hid (V → H → Prop)] : den IP c101_1 (@Q101_1 q) = (@J101_1 q) := by kernel_rfl
def Q101_2 [q : Hid (V → H → Prop)] : X → E → H → Prop := (Qb 0 (Qx (@J101_1 q) (@Q101 q)))
def Q101_3 [q : Hid (V → H → Prop)] : X → E → H → Prop := (@Q101_2 q)
def K101_3 (x2 x4 x22 : V) (h : H) [q : Hid (V → H → Prop)] : Prop := @Sel x22 ⟨@Bnd V (vFa 8 x2) ⟨fun v1 => @Bnd (V × H) (vStore h 1 v1 (.b true)) ⟨fun r2 => @K101_1 x2 x4 r2.2 q⟩⟩⟩ ⟨@Bnd V (vFa 6 x2) ⟨fun v3 => @Bnd (V × H) (vStore h 1 v3 (.i .i64 0)) ⟨fun r4 => @K101_1 x2 x4 r4.2 q⟩⟩⟩
def J101_3 [q : Hid (V → H → Prop)] : E → H → Prop := fun e h => @K101_3 (e 2) (e 4) (e 22) h q
theorem p101_3 [q : Hid (V → H → Prop)] : den IP c101_3 (@Q101_3 q) = (@J101_3 q) := by kernel_rfl
def S101_7 [q : Hid (V → H → Prop)] : E → H → Prop := ((Qx (@J101_3 q) (@Q101_2 q)) X.normal)
def K101_7 (x2 x4 x27 x29 : V) (h : H) [q : Hid (V → H → Prop)] : Prop := @Bnd V (vPick x27 (.b true) x29) ⟨fun v1 => @K101_3 x2 x4 v1 h q⟩
def J101_7 [q : Hid (V → H → Prop)] : E → H → Prop := fun e h => @K101_7 (e 2) (e 4) (e 27) (e 29) h q
theorem p101_7 [q : Hid (V → H → Prop)] : denOps IP o101_4 (@S101_7 q) = (@J101_7 q) := by
  refine Eq.trans (app_eq rfl rfl) ?_
  kernel_rfl
def K101_2 (x1 x2 x4 x6 : V) (h : H) [q : Hid (V → H → Prop)] : Prop := @Sel x6 ⟨@Bnd V (vFa 6 x2) ⟨fun v1 => @Bnd (V × H) (vStore h 1 v1 (.i .i64 3)) ⟨fun r2 => @K101_1 x2 x4 r2.2 q⟩⟩⟩ ⟨@Bnd V (vFa 5 x2) ⟨fun v3 => @Bnd V (vLd1 h v3) ⟨fun v4 => @Bnd V (bin .eql x1 v4) ⟨fun v5 => @Sel v5 ⟨@Bnd V (vFa 6 x2) ⟨fun v6 => @Bnd (V × H) (vStore h 1 v6 (.i .i64 2)) ⟨fun r7 => @K101_1 x2 x4 r7.2 q⟩⟩⟩ ⟨@Bnd V (vFa 5 x2) ⟨fun v8 => @Bnd V (vLd1 h v8) ⟨fun v9 => @Bnd V (bin .lss x1 v9) ⟨fun v10 => @Grd v10 false ⟨@Bnd V (vFa 7 x2) ⟨fun v11 => @Bnd V (vLd1 h v11) ⟨fun v12 => @K101_7 x2 x4 v10 v12 h q⟩⟩⟩ ⟨@K101_7 x2 x4 v10 undefV h q⟩⟩⟩⟩⟩⟩⟩⟩⟩
def J101_2 [q : Hid (V → H → Prop)] : E → H → Prop := fun e h => @K101_2 (e 1) (e 2) (e 4) (e 6) h q
theorem p101_2 [q : Hid (V → H → Prop)] : den IP c101_2 (@Q101_2 q) = (@J101_2 q) := by
  refine Eq.trans (cond_eq rfl (seq_eq (cond_eq rfl (seq_eq (@p101_3 q) (region_eq (app_eq (grp_eq2 27 false rfl (@p101_7 q) rfl) rfl)))) rfl)) ?_
  kernel_rfl
def S101_11 [q : Hid (V → H → Prop)] : E → H → Prop := ((Qx (@J101_2 q) (Qb 0 (Qx (@J101_1 q) (@Q101 q)))) X.normal)
def K101_11 (x1 x2 x4 x11 x13 : V) (h : H) [q : Hid (V → H → Prop)] : Prop := @Bnd V (vPick x11 x13 (.b false)) ⟨fun v1 => @K101_2 x1 x2 x4 v1 h q⟩
def J101_11 [q : Hid (V → H → Prop)] : E → H → Prop := fun e h => @K101_11 (e 1) (e 2) (e 4) (e 11) (e 13) h q
theorem p101_11 [q : Hid (V → H → Prop)] : denOps IP o101_8 (@S101_11 q) = (@J101_11 q) := by
  refine Eq.trans (app_eq rfl rfl) ?_
  kernel_rfl
def K101 (x0 x1 : V) (h : H) [q : Hid (V → H → Prop)] : Prop := @Bnd (V × H) (vBox x0 h) ⟨fun r1 => @Bnd (V × H) (some (.p (some (H.nx r1.2, 0)), H.new r1.2 ⟨false, [(.i .i64 0), (.i .i64 0), (.i .u64 0), (.i .u64 0), (.i .u64 0), (.i .u64 0), (.i .i64 0), (.b false), (.b false)]⟩)) ⟨fun r2 => @Bnd V (vFa 5 r1.1) ⟨fun v3 => @Bnd V (vLd1 r2.2 v3) ⟨fun v4 => @Bnd V (bin .eql x1 v4) ⟨fun v5 => @Grd v5 true ⟨@Bnd V (vFa 7 r1.1) ⟨fun v6 => @Bnd V (vLd1 r2.2 v6) ⟨fun v7 => @K101_11 x1 r1.1 r2.1 v5 v7 r2.2 q⟩⟩⟩ ⟨@K101_11 x1 r1.1 r2.1 v5 undefV r2.2 q⟩⟩⟩⟩⟩⟩
theorem p101 [q : Hid (V → H → Prop)] : den IP c101 (@Q101 q) = fun e h => @K101 (e 0) (e 1) h q := by
  refine Eq.trans (seq_eq (seq_eq (@p101_1 q) (block_eq (seq_eq (@p101_2 q) (region_eq (app_eq (grp_eq2 11 true rfl (@p101_11 q) rfl) rfl))))) rfl) ?_
  kernel_rfl
theorem f101 (a0 a1 : V) (h : H) (Q : V → H → Prop) : @wF IP 101 [a0, a1] h ⟨Q⟩ ↔ @K101 a0 a1 h ⟨Q⟩ := (Fnc_den (ip101) (by kernel_rfl) (by kernel_rfl) h Q).trans (iff_of_eq (congrFun (congrFun (@p101 ⟨Q⟩) _) h))
theorem ip102 : IP 102 = some ir102 := rfl
def Q102 [q : Hid (V → H → Prop)] : X → E → H → Prop := Qr rs102 q.un
def K102 (x0 x1 : V) (h : H) [q : Hid (V → H → Prop)] : Prop := @Bnd (V × H) (vBox x0 h) ⟨fun r1 => @Bnd V (vLdA r1.2 2 r1.1) ⟨fun v2 => @wF IP 95 [v2] r1.2 ⟨fun v3 h4 => @Bnd V (un .not v3) ⟨fun v5 => @Sel v5 ⟨@Hid.un (V → H → Prop) q (.i .i64 (-1)) h4⟩ ⟨@Bnd V (vLdA h4 2 r1.1) ⟨fun v6 => @wF IP 98 [v6, x1] h4 ⟨fun v7 h8 => @Hid.un (V → H → Prop) q v7 h8⟩⟩⟩⟩⟩⟩⟩
theorem p102 [q : Hid (V → H → Prop)] : den IP c102 (@Q102 q) = fun e h => @K102 (e 0) (e 1) h q := by kernel_rfl
theorem f102 (a0 a1 : V) (h : H) (Q : V → H → Prop) : @wF IP 102 [a0, a1] h ⟨Q⟩ ↔ @K102 a0 a1 h ⟨Q⟩ := (Fnc_den (ip102) (by kernel_rfl) (by kernel_rfl) h Q).trans (iff_of_eq (congrFun (congrFun (@p102 ⟨Q⟩) _) h))
theorem ip103 : IP 103 = some ir103 := rfl
def Q103 [q : Hid (V → H → Prop)] : X → E → H → Prop := Qr rs103 q.un
def Q103_1 [q : Hid (V → H → Prop)] : X → E → H → Prop := (@Q103 q)
def K103_1 (x0 x1 x3 : V) (h : H) [q : Hid (V → H → Prop)] : Prop := @Bnd V (vNilc x0) ⟨fun v1 => @Bnd V (vFa 0 v1) ⟨fun v2 => @Bnd V (vLd1 h v2) ⟨fun v3 => @Bnd V (vIa 1 v3 x1) ⟨fun v4 => @Bnd (V × H) (vStore h 1 v4 x3) ⟨fun r5 => @Hid.un (V → H → Prop) q (.b true) r5.2⟩⟩⟩⟩⟩
def J103_1 [q : Hid (V → H → Prop)] : E → H → Prop := fun e h => @K103_1 (e 0) (e 1) (e 3) h q
theorem p103_1 [q : Hid (V → H → Prop)] : den IP c103_1 (@Q103_1 q) = (@J103_1 q) := by kernel_rfl
def Q103_2 [q : Hid (V → H → Prop)] : X → E → H → Prop := (Qx (@J103_1 q) (@Q103 q))
def K103_2 (x0 x1 x3 x23 : V) (h : H) [q : Hid (V → H → Prop)] : Prop := @Sel x23 ⟨@Hid.un (V → H → Prop) q (.b false) h⟩ ⟨@K103_1 x0 x1 x3 h q⟩
def J103_2 [q : Hid (V → H → Prop)] : E → H → Prop := fun e h => @K103_2 (e 0) (e 1) (e 3) (e 23) h q
theorem p103_2 [q : Hid (V → H → Prop)] : den IP c103_2 (@Q103_2 q) = (@J103_2 q) := by kernel_rfl
def S103_6 [q : Hid (V → H → Prop)] : E → H → Prop := ((Qx (@J103_2 q) (Qx (@J103_1 q) (@Q103 q))) X.normal)
def K103_6 (x0 x1 x3 x13 x22 : V) (h : H) [q : Hid (V → H → Prop)] : Prop := @Bnd V (vPick x13 (.b true) x22) ⟨fun v1 => @K103_2 x0 x1 x3 v1 h q⟩
def J103_6 [q : Hid (V → H → Prop)] : E → H → Prop := fun e h => @K103_6 (e 0) (e 1) (e 3) (e 13) (e 22) h q
theorem p103_6 [q : Hid (V → H → Prop)] : denOps IP o103_3 (@S103_6 q) = (@J103_6 q) := by
  refine Eq.trans (app_eq rfl rfl) ?_
  kernel_rfl
def K103 (x0 x1 x2 x3 : V) (h : H) [q : Hid (V → H → Prop)] : Prop := @wF IP 133 [x0, x1] h ⟨fun v1 h2 => @Bnd V (un .not v1) ⟨fun v3 => @Grd v3 false ⟨@Bnd V (vNilc x0) ⟨fun v4 => @Bnd V (vFa 0 v4) ⟨fun v5 => @Bnd V (vLd1 h2 v5) ⟨fun v6 => @Bnd V (vIa 1 v6 x1) ⟨fun v7 => @Bnd V (vLd1 h2 v7) ⟨fun v8 => @Bnd V (bin .neq v8 x2) ⟨fun v9 => @K103_6 x0 x1 x3 v3 v9 h2 q⟩⟩⟩⟩⟩⟩⟩ ⟨@K103_6 x0 x1 x3 v3 undefV h2 q⟩⟩⟩
theorem p103 [q : Hid (V → H → Prop)] : den IP c103 (@Q103 q) = fun e h => @K103 (e 0) (e 1) (e 2) (e 3) h q := by
  refine Eq.trans (seq_eq (seq_eq (@p103_1 q) (seq_eq (@p103_2 q) (region_eq (app_eq (grp_eq2 13 false rfl (@p103_6 q) rfl) rfl)))) rfl) ?_
  kernel_rfl
theorem f103 (a0 a1 a2 a3 : V) (h : H) (Q : V → H → Prop) : @wF IP 103 [a0, a1, a2, a3] h ⟨Q⟩ ↔ @K103 a0 a1 a2 a3 h ⟨Q⟩ := (Fnc_den (ip103) (by kernel_rfl) (by kernel_rfl) h Q).trans (iff_of_eq (congrFun (congrFun (@p103 ⟨Q⟩) _) h))
theorem ip104 : IP 104 = some ir104 := rfl
def Q104 [q : Hid (V → H → Prop)] : X → E → H → Prop := Qr rs104 q.un
def Q104_1 [q : Hid (V → H → Prop)] : X → E → H → Prop := (@Q104 q)
def K104_1 (x1 x2 x3 : V) (h : H) [q : Hid (V → H → Prop)] : Prop := @Bnd V (vLdA h 2 x3) ⟨fun v1 => @wF IP 98 [v1, x1] h ⟨fun v2 h3 => @Bnd V (bin .add v2 (.i .i64 1)) ⟨fun v4 => @Bnd V (bin .add v4 x2) ⟨fun v5 => @Hid.un (V → H → Prop) q v5 h3⟩⟩⟩⟩
def J104_1 [q : Hid (V → H → Prop)] : E → H → Prop := fun e h => @K104_1 (e 1) (e 2) (e 3) h q
theorem p104_1 [q : Hid (V → H → Prop)] : den IP c104_1 (@Q104_1 q) = (@J104_1 q) := by kernel_rfl
def Q104_2 [q : Hid (V → H → Prop)] : X → E → H → Prop := (Qx (@J104_1 q) (@Q104 q))
def K104_2 (x1 x2 x3 x17 : V) (h : H) [q : Hid (V → H → Prop)] : Prop := @Sel x17 ⟨@Hid.un (V → H → Prop) q (.i .i64 (-1)) h⟩ ⟨@K104_1 x1 x2 x3 h q⟩
def J104_2 [q : Hid (V → H → Prop)] : E → H → Prop := fun e h => @K104_2 (e 1) (e 2) (e 3) (e 17) h q
theorem p104_2 [q : Hid (V → H → Prop)] : den IP c104_2 (@Q104_2 q) = (@J104_2 q) := by kernel_rfl
def S104_8 [q : Hid (V → H → Prop)] : E → H → Prop := ((Qx (@J104_2 q) (Qx (@J104_1 q) (@Q104 q))) X.normal)
def K104_8 (x1 x2 x3 x14 x16 : V) (h : H) [q : Hid (V → H → Prop)] : Prop := @Bnd V (vPick x14 (.b true) x16) ⟨fun v1 => @K104_2 x1 x2 x3 v1 h q⟩
def J104_8 [q : Hid (V → H → Prop)] : E → H → Prop := fun e h => @K104_8 (e 1) (e 2) (e 3) (e 14) (e 16) h q
theorem p104_8 [q : Hid (V → H → Prop)] : denOps IP o104_3 (@S104_8 q) = (@J104_8 q) := by
  refine Eq.trans (app_eq rfl rfl) ?_
  kernel_rfl
def S104_9 [q : Hid (V → H → Prop)] : E → H → Prop := ((Qx (@J104_2 q) (Qx (@J104_1 q) (@Q104 q))) X.normal)
def K104_9 (x1 x2 x3 x10 x12 : V) (h : H) [q : Hid (V → H → Prop)] : Prop := @Bnd V (vPick x10 (.b true) x12) ⟨fun v1 => @Grd v1 false ⟨@Bnd V (bin .geq x2 (.i .i64 3)) ⟨fun v2 => @K104_8 x1 x2 x3 v1 v2 h q⟩⟩ ⟨@K104_8 x1 x2 x3 v1 undefV h q⟩⟩
def J104_9 [q : Hid (V → H → Prop)] : E → H → Prop := fun e h => @K104_9 (e 1) (e 2) (e 3) (e 10) (e 12) h q
theorem p104_9 [q : Hid (V → H → Prop)] : denOps IP o104_5 (@S104_9 q) = (@J104_9 q) := by
  refine Eq.trans (app_eq (grp_eq2 14 false rfl (@p104_8 q) rfl) rfl) ?_
  kernel_rfl
def K104 (x0 x1 x2 : V) (h : H) [q : Hid (V → H → Prop)] : Prop := @Bnd (V × H) (vBox x0 h) ⟨fun r1 => @Bnd V (vLdA r1.2 2 r1.1) ⟨fun v2 => @wF IP 95 [v2] r1.2 ⟨fun v3 h4 => @Bnd V (un .not v3) ⟨fun v5 => @Grd v5 false ⟨@Bnd V (bin .lss x2 (.i .i64 0)) ⟨fun v6 => @K104_9 x1 x2 r1.1 v5 v6 h4 q⟩⟩ ⟨@K104_9 x1 x2 r1.1 v5 undefV h4 q⟩⟩⟩⟩⟩
theorem p104 [q : Hid (V → H → Prop)] : den IP c104 (@Q104 q) = fun e h => @K104 (e 0) (e 1) (e 2) h q := by
  refine Eq.trans (seq_eq (seq_eq (@p104_1 q) (seq_eq (@p104_2 q) (region_eq (app_eq (grp_eq2 10 false rfl (@p104_9 q) rfl) rfl)))) rfl) ?_
  kernel_rfl
theorem f104 (a0 a1 a2 : V) (h : H) (Q : V → H → Prop) : @wF IP 104 [a0, a1, a2] h ⟨Q⟩ ↔ @K104 a0 a1 a2 h ⟨Q⟩ := (Fnc_den (ip104) (by kernel_rfl) (by kernel_rfl) h Q).trans (iff_of_eq (congrFun (congrFun (@p104 ⟨Q⟩) _) h))
theorem ip105 : IP 105 = some ir105 := rfl
def Q105 [q : Hid (V → H → Prop)] : X → E → H → Prop := Qr rs105 q.un
def K105 (x0 : V) (h : H) [q : Hid (V → H → Prop)] : Prop := @Bnd V (vEqz false .s x0 V.nsl) ⟨fun v1 => @Sel v1 ⟨@Hid.un (V → H → Prop) q V.nsl h⟩ ⟨@Bnd (V × H) (vNewSl 0 [] [] h) ⟨fun r2 => @Bnd (V × H) (vApp 1 8 r2.1 x0 r2.2) ⟨fun r3 => @Hid.un (V → H → Prop) q r3.1 r3.2⟩⟩⟩⟩
theorem p105 [q : Hid (V → H → Prop)] : den IP c105 (@Q105 q) = fun e h => @K105 (e 0) h q := by kernel_rfl
theorem f105 (a0 : V) (h : H) (Q : V → H → Prop) : @wF IP 105 [a0] h ⟨Q⟩ ↔ @K105 a0 h ⟨Q⟩ := (Fnc_den (ip105) (by kernel_rfl) (by kernel_rfl) h Q).trans (iff_of_eq (congrFun (congrFun (@p105 ⟨Q⟩) _) h))
theorem ip106 : IP 106 = some ir106 := rfl
def Q106 [q : Hid (V → H → Prop)] : X → E → H → Prop := Qr rs106 q.un
def S106_4 [q : Hid (V → H → Prop)] : E → H → Prop := ((Qx (den IP .ret (@Q106 q)) (@Q106 q)) X.normal)
def K106_4 (x9 x16 : V) (h : H) [q : Hid (V → H → Prop)] : Prop := @Bnd V (vPick x9 x16 (.b false)) ⟨fun v1 => @Hid.un (V → H → Prop) q v1 h⟩
def J106_4 [q : Hid (V → H → Prop)] : E → H → Prop := fun e h => @K106_4 (e 9) (e 16) h q
theorem p106_4 [q : Hid (V → H → Prop)] : denOps IP o106_1 (@S106_4 q) = (@J106_4 q) := by
  refine Eq.trans (app_eq rfl rfl) ?_
  kernel_rfl
def K106 (x0 x1 x2 : V) (h : H) [q : Hid (V → H → Prop)] : Prop := @Bnd (V × H) (vBox x1 h) ⟨fun r1 => @Bnd V (vLdA r1.2 2 r1.1) ⟨fun v2 => @wF IP 95 [v2] r1.2 ⟨fun v3 h4 => @Grd v3 true ⟨@Bnd V (vLdA h4 2 r1.1) ⟨fun v5 => @wF IP 98 [v5, x2] h4 ⟨fun v6 h7 => @wF IP 134 [x0, v6] h7 ⟨fun v8 h9 => @Bnd V (bin .eql v8 x2) ⟨fun v10 => @K106_4 v3 v10 h9 q⟩⟩⟩⟩⟩ ⟨@K106_4 v3 undefV h4 q⟩⟩⟩⟩
theorem p106 [q : Hid (V → H → Prop)] : den IP c106 (@Q106 q) = fun e h => @K106 (e 0) (e 1) (e 2) h q := by
  refine Eq.trans (seq_eq (seq_eq rfl (region_eq (app_eq (grp_eq2 9 true rfl (@p106_4 q) rfl) rfl))) rfl) ?_
  kernel_rfl
theorem f106 (a0 a1 a2 : V) (h : H) (Q : V → H → Prop) : @wF IP 106 [a0, a1, a2] h ⟨Q⟩ ↔ @K106 a0 a1 a2 h ⟨Q⟩ := (Fnc_den (ip106) (by kernel_rfl) (by kernel_rfl) h Q).trans (iff_of_eq (congrFun (congrFun (@p106 ⟨Q⟩) _) h))
theorem ip107 : IP 107 = some ir107 := rfl
def Q107 [q : Hid (V → H → Prop)] : X → E → H → Prop := Qr rs107 q.un
def S107_4 [q : Hid (V → H → Prop)] : E → H → Prop := ((Qx (den IP .ret (@Q107 q)) (@Q107 q)) X.normal)
def K107_4 (x9 x17 : V) (h : H) [q : Hid (V → H → Prop)] : Prop := @Bnd V (vPick x9 x17 (.b false)) ⟨fun v1 => @Hid.un (V → H → Prop) q v1 h⟩
def J107_4 [q : Hid (V → H → Prop)] : E → H → Prop := fun e h => @K107_4 (e 9) (e 17) h q
theorem p107_4 [q : Hid (V → H → Prop)] : denOps IP o107_1 (@S107_4 q) = (@J107_4 q) := by
  refine Eq.trans (app_eq rfl rfl) ?_
  kernel_rfl
def K107 (x0 x1 x2 : V) (h : H) [q : Hid (V → H → Prop)] : Prop := @Bnd (V × H) (vBox x1 h) ⟨fun r1 => @Bnd V (vLdA r1.2 2 r1.1) ⟨fun v2 => @wF IP 95 [v2] r1.2 ⟨fun v3 h4 => @Grd v3 true ⟨@Bnd V (vLdA h4 2 r1.1) ⟨fun v5 => @wF IP 98 [v5, x2] h4 ⟨fun v6 h7 => @wF IP 134 [x0, v6] h7 ⟨fun v8 h9 => @Bnd V (bin .add x2 (.i .u64 1)) ⟨fun v10 => @Bnd V (bin .eql v8 v10) ⟨fun v11 => @K107_4 v3 v11 h9 q⟩⟩⟩⟩⟩⟩ ⟨@K107_4 v3 undefV h4 q⟩⟩⟩⟩
theorem p107 [q : Hid (V → H → Prop)] : den IP c107 (@Q107 q) = fun e h => @K107 (e 0) (e 1) (e 2) h q := by
  refine Eq.trans (seq_eq (seq_eq rfl (region_eq (app_eq (grp_eq2 9 true rfl (@p107_4 q) rfl) rfl))) rfl) ?_
  kernel_rfl
theorem f107 (a0 a1 a2 : V) (h : H) (Q : V → H → Prop) : @wF IP 107 [a0, a1, a2] h ⟨Q⟩ ↔ @K107 a0 a1 a2 h ⟨Q⟩ := (Fnc_den (ip107) (by kernel_rfl) (by kernel_rfl) h Q).trans (iff_of_eq (congrFun (congrFun (@p107 ⟨Q⟩) _) h))
theorem ip133 : IP 133 = some ir133 := rfl
def Q133 [q : Hid (V → H → Prop)] : X → E → H → Prop := Qr rs133 q.un
def Q133_1 [q : Hid (V → H → Prop)] : X → E → H → Prop := (@Q133 q)
def Q133_2 [q : Hid (V → H → Prop)] : X → E → H → Prop := (@Q133_1 q)
def K133_2 (h : H) [q : Hid (V → H → Prop)] : Prop := @Hid.un (V → H → Prop) q (.b true) h
def J133_2 [q : Hid (V → H → Prop)] : E → H → Prop := fun e h => @K133_2 h q
theorem p133_2 [q : Hid (V → H → Prop)] : den IP c133_2 (@Q133_2 q) = (@J133_2 q) := by kernel_rfl
def K133_1 (x0 x1 : V) (h : H) [q : Hid (V → H → Prop)] : Prop := @Bnd V (vNilc x0) ⟨fun v1 => @Bnd V (vFa 1 v1) ⟨fun v2 => @Bnd V (vLd1 h v2) ⟨fun v3 => @wF IP 156 [v3, x1] h ⟨fun v4 h5 => @Bnd V (un .not v4) ⟨fun v6 => @Sel v6 ⟨@Bnd V (vNilc x0) ⟨fun v7 => @Bnd V (vFa 1 v7) ⟨fun v8 => @Bnd V (vLd1 h5 v8) ⟨fun v9 => @Bnd (V × H) (vNewSl 1 [(.i .i64 0)] [(0, 1, x1)] h5) ⟨fun r10 => @Bnd (V × H) (vApp 1 8 v9 r10.1 r10.2) ⟨fun r11 => @Bnd V (vNilc x0) ⟨fun v12 => @Bnd V (vFa 1 v12) ⟨fun v13 => @Bnd (V × H) (vStore r11.2 1 v13 r11.1) ⟨fun r14 => @K133_2 r14.2 q⟩⟩⟩⟩⟩⟩⟩⟩⟩ ⟨@K133_2 h5 q⟩⟩⟩⟩⟩⟩
def J133_1 [q : Hid (V → H → Prop)] : E → H → Prop := fun e h => @K133_1 (e 0) (e 1) h q
theorem p133_1 [q : Hid (V → H → Prop)] : den IP c133_1 (@Q133_1 q) = (@J133_1 q) := by
  refine Eq.trans (seq_eq (@p133_2 q) rfl) ?_
  kernel_rfl
def Q133_3 [q : Hid (V → H → Prop)] : X → E → H → Prop := (Qx (@J133_1 q) (@Q133 q))
def K133_3 (x0 x1 x17 : V) (h : H) [q : Hid (V → H → Prop)] : Prop := @Sel x17 ⟨@Bnd V (vNilc x0) ⟨fun v1 => @Bnd V (vFa 2 v1) ⟨fun v2 => @Bnd V (vLd1 h v2) ⟨fun v3 => @Bnd V (bin .add v3 (.i .i64 1)) ⟨fun v4 => @Bnd V (vNilc x0) ⟨fun v5 => @Bnd V (vFa 2 v5) ⟨fun v6 => @Bnd (V × H) (vStore h 1 v6 v4) ⟨fun r7 => @Hid.un (V → H → Prop) q (.b false) r7.2⟩⟩⟩⟩⟩⟩⟩⟩ ⟨@K133_1 x0 x1 h q⟩
def J133_3 [q : Hid (V → H → Prop)] : E → H → Prop := fun e h => @K133_3 (e 0) (e 1) (e 17) h q
theorem p133_3 [q : Hid (V → H → Prop)] : den IP c133_3 (@Q133_3 q) = (@J133_3 q) := by kernel_rfl
def S133_7 [q : Hid (V → H → Prop)] : E → H → Prop := ((Qx (@J133_3 q) (Qx (@J133_1 q) (@Q133 q))) X.normal)
def K133_7 (x0 x1 x9 x16 : V) (h : H) [q : Hid (V → H → Prop)] : Prop := @Bnd V (vPick x9 (.b true) x16) ⟨fun v1 => @K133_3 x0 x1 v1 h q⟩
def J133_7 [q : Hid (V → H → Prop)] : E → H → Prop := fun e h => @K133_7 (e 0) (e 1) (e 9) (e 16) h q
theorem p133_7 [q : Hid (V → H → Prop)] : denOps IP o133_4 (@S133_7 q) = (@J133_7 q) := by
  refine Eq.trans (app_eq rfl rfl) ?_
  kernel_rfl
def K133 (x0 x1 : V) (h : H) [q : Hid (V → H → Prop)] : Prop := @Bnd V (vEqz false .p x0 (.p none)) ⟨fun v1 => @Sel v1 ⟨@Hid.un (V → H → Prop) q (.b false) h⟩ ⟨@Bnd V (bin .lss x1 (.i .i64 0)) ⟨fun v2 => @Grd v2 false ⟨@Bnd V (vNilc x0) ⟨fun v3 => @Bnd V (vFa 0 v3) ⟨fun v4 => @Bnd V (vLd1 h v4) ⟨fun v5 => @Bnd V (vLens v5) ⟨fun v6 => @Bnd V (bin .geq x1 v6) ⟨fun v7 => @K133_7 x0 x1 v2 v7 h q⟩⟩⟩⟩⟩⟩ ⟨@K133_7 x0 x1 v2 undefV h q⟩⟩⟩⟩
theorem p133 [q : Hid (V → H → Prop)] : den IP c133 (@Q133 q) = fun e h => @K133 (e 0) (e 1) h q := by
  refine Eq.trans (seq_eq (seq_eq (seq_eq (@p133_1 q) (seq_eq (@p133_3 q) (region_eq (app_eq (grp_eq2 9 false rfl (@p133_7 q) rfl) rfl)))) rfl) rfl) ?_
  kernel_rfl
theorem f133 (a0 a1 : V) (h : H) (Q : V → H → Prop) : @wF IP 133 [a0, a1] h ⟨Q⟩ ↔ @K133 a0 a1 h ⟨Q⟩ := (Fnc_den (ip133) (by kernel_rfl) (by kernel_rfl) h Q).trans (iff_of_eq (congrFun (congrFun (@p133 ⟨Q⟩) _) h))
theorem ip134 : IP 134 = some ir134 := rfl
def Q134 [q : Hid (V → H → Prop)] : X → E → H → Prop := Qr rs134 q.un
def Q134_1 [q : Hid (V → H → Prop)] : X → E → H → Prop := (@Q134 q)
def K134_1 (x0 x1 : V) (h : H) [q : Hid (V → H → Prop)] : Prop := @Bnd V (vNilc x0) ⟨fun v1 => @Bnd V (vFa 0 v1) ⟨fun v2 => @Bnd V (vLd1 h v2) ⟨fun v3 => @Bnd V (vIa 1 v3 x1) ⟨fun v4 => @Bnd V (vLd1 h v4) ⟨fun v5 => @Hid.un (V → H → Prop) q v5 h⟩⟩⟩⟩⟩
def J134_1 [q : Hid (V → H → Prop)] : E → H → Prop := fun e h => @K134_1 (e 0) (e 1) h q
theorem p134_1 [q : Hid (V → H → Prop)] : den IP c134_1 (@Q134_1 q) = (@J134_1 q) := by kernel_rfl
def Q134_2 [q : Hid (V → H → Prop)] : X → E → H → Prop := (Qx (@J134_1 q) (@Q134 q))
def K134_2 (x0 x1 x12 : V) (h : H) [q : Hid (V → H → Prop)] : Prop := @Sel x12 ⟨@Hid.un (V → H → Prop) q (.i .u64 0) h⟩ ⟨@K134_1 x0 x1 h q⟩
def J134_2 [q : Hid (V → H → Prop)] : E → H → Prop := fun e h => @K134_2 (e 0) (e 1) (e 12) h q
theorem p134_2 [q : Hid (V → H → Prop)] : den IP c134_2 (@Q134_2 q) = (@J134_2 q) := by kernel_rfl
def S134_6 [q : Hid (V → H → Prop)] : E → H → Prop := ((Qx (@J134_2 q) (Qx (@J134_1 q) (@Q134 q))) X.normal)
def K134_6 (x0 x1 x7 x11 : V) (h : H) [q : Hid (V → H → Prop)] : Prop := @Bnd V (vPick x7 (.b true) x11) ⟨fun v1 => @K134_2 x0 x1 v1 h q⟩
def J134_6 [q : Hid (V → H → Prop)] : E → H → Prop := fun e h => @K134_6 (e 0) (e 1) (e 7) (e 11) h q
theorem p134_6 [q : Hid (V → H → Prop)] : denOps IP o134_3 (@S134_6 q) = (@J134_6 q) := by
  refine Eq.trans (app_eq rfl rfl) ?_
  kernel_rfl
def K134 (x0 x1 : V) (h : H) [q : Hid (V → H → Prop)] : Prop := @Bnd V (bin .lss x1 (.i .i64 0)) ⟨fun v1 => @Grd v1 false ⟨@wF IP 96 [x0] h ⟨fun v2 h3 => @Bnd V (bin .geq x1 v2) ⟨fun v4 => @K134_6 x0 x1 v1 v4 h3 q⟩⟩⟩ ⟨@K134_6 x0 x1 v1 undefV h q⟩⟩
theorem p134 [q : Hid (V → H → Prop)] : den IP c134 (@Q134 q) = fun e h => @K134 (e 0) (e 1) h q := by
  refine Eq.trans (seq_eq (seq_eq (@p134_1 q) (seq_eq (@p134_2 q) (region_eq (app_eq (grp_eq2 7 false rfl (@p134_6 q) rfl) rfl)))) rfl) ?_
  kernel_rfl
theorem f134 (a0 a1 : V) (h : H) (Q : V → H → Prop) : @wF IP 134 [a0, a1] h ⟨Q⟩ ↔ @K134 a0 a1 h ⟨Q⟩ := (Fnc_den (ip134) (by kernel_rfl) (by kernel_rfl) h Q).trans (iff_of_eq (congrFun (congrFun (@p134 ⟨Q⟩) _) h))
theorem ip156 : IP 156 = some ir156 := rfl
def Q156 [q : Hid (V → H → Prop)] : X → E → H → Prop := Qr rs156 q.un
def K156 (x0 x1 : V) (h : H) [q : Hid (V → H → Prop)] : Prop := @wF IP 161 [x0, x1] h ⟨fun v1 h2 => @Bnd V (bin .geq v1 (.i .i64 0)) ⟨fun v3 => @Hid.un (V → H → Prop) q v3 h2⟩⟩
theorem p156 [q : Hid (V → H → Prop)] : den IP c156 (@Q156 q) = fun e h => @K156 (e 0) (e 1) h q := by kernel_rfl
theorem f156 (a0 a1 : V) (h : H) (Q : V → H → Prop) : @wF IP 156 [a0, a1] h ⟨Q⟩ ↔ @K156 a0 a1 h ⟨Q⟩ := (Fnc_den (ip156) (by kernel_rfl) (by kernel_rfl) h Q).trans (iff_of_eq (congrFun (congrFun (@p156 ⟨Q⟩) _) h))
theorem ip161 : IP 161 = some ir161 := rfl
def Q161 [q : Hid (V → H → Prop)] : X → E → H → Prop := Qr rs161 q.un
def Q161_1 [q : Hid (V → H → Prop)] : X → E → H → Prop := (@Q161 q)
def K161_1 (h : H) [q : Hid (V → H → Prop)] : Prop := @Hid.un (V → H → Prop) q (.i .i64 (-1)) h
def J161_1 [q : Hid (V → H → Prop)] : E → H → Prop := fun e h => @K161_1 h q
theorem p161_1 [q : Hid (V → H → Prop)] : den IP c161_1 (@Q161_1 q) = (@J161_1 q) := by kernel_rfl
def R161_2 [q : Hid (V → H → Prop)] : X → E → H → Prop := (Qb 0 (Qx (@J161_1 q) (@Q161 q)))
def Q161_2 [q : Hid (V → H → Prop)] [g161_2 : Hid (V → V → V → V → H → Prop)] : X → E → H → Prop := Qx (fun e h => g161_2.un (e 0) (e 1) (e 7) (e 8) h) (@R161_2 q)
def L161_2 (x0 x1 x7 x8 : V) (h : H) [q : Hid (V → H → Prop)] [g161_2 : Hid (V → V → V → V → H → Prop)] : Prop := @Bnd V (bin .lss x8 x7) ⟨fun v1 => @Sel v1 ⟨@Bnd V (vIa 1 x0 x8) ⟨fun v2 => @Bnd V (vLd1 h v2) ⟨fun v3 => @Bnd V (bin .eql x1 v3) ⟨fun v4 => @Sel v4 ⟨@Hid.un (V → H → Prop) q x8 h⟩ ⟨@Bnd V (bin .add x8 (.i .i64 1)) ⟨fun v5 => @Hid.un (V → V → V → V → H → Prop) g161_2 x0 x1 x7 v5 h⟩⟩⟩⟩⟩⟩ ⟨@K161_1 h q⟩⟩
theorem p161_2 [q : Hid (V → H → Prop)] [g161_2 : Hid (V → V → V → V → H → Prop)] : den IP c161_2 (@Q161_2 q g161_2) = fun e h => @L161_2 (e 0) (e 1) (e 7) (e 8) h q g161_2 := by kernel_rfl
def W161_2 (x0 x1 x7 x8 : V) (h : H) [q : Hid (V → H → Prop)] : Prop := wFix (fun (g : V × V × V × V × Unit → H → Prop) (x : V × V × V × V × Unit) h => @L161_2 x.1 x.2.1 x.2.2.1 x.2.2.2.1 h q ⟨fun y0 y1 y7 y8 h => g (y0, y1, y7, y8, ()) h⟩) (x0, x1, x7, x8, ()) h
theorem n161_2 [q : Hid (V → H → Prop)] : ∀ g : V × V × V × V × Unit → H → Prop, den IP c161_2 (Qx (fun e h => g ((fun e : E => ((e 0, e 1, e 7, e 8, ()) : V × V × V × V × Unit)) e) h) (@R161_2 q)) = fun e h => (fun (g : V × V × V × V × Unit → H → Prop) (x : V × V × V × V × Unit) h => @L161_2 x.1 x.2.1 x.2.2.1 x.2.2.2.1 h q ⟨fun y0 y1 y7 y8 h => g (y0, y1, y7, y8, ()) h⟩) g ((fun e : E => ((e 0, e 1, e 7, e 8, ()) : V × V × V × V × Unit)) e) h := fun g => @p161_2 q ⟨fun y0 y1 y7 y8 h => g (y0, y1, y7, y8, ()) h⟩
theorem w161_2 [q : Hid (V → H → Prop)] : den IP (.loop c161_2) (@R161_2 q) = fun e h => @W161_2 (e 0) (e 1) (e 7) (e 8) h q := loop_eq (fun e : E => ((e 0, e 1, e 7, e 8, ()) : V × V × V × V × Unit)) (fun (g : V × V × V × V × Unit → H → Prop) (x : V × V × V × V × Unit) h => @L161_2 x.1 x.2.1 x.2.2.1 x.2.2.2.1 h q ⟨fun y0 y1 y7 y8 h => g (y0, y1, y7, y8, ()) h⟩) (@n161_2 q)
theorem m161_2 [q : Hid (V → H → Prop)] : Mono (fun (g : V × V × V × V × Unit → H → Prop) (x : V × V × V × V × Unit) h => @L161_2 x.1 x.2.1 x.2.2.1 x.2.2.2.1 h q ⟨fun y0 y1 y7 y8 h => g (y0, y1, y7, y8, ()) h⟩) := mono_of (p := (fun e : E => ((e 0, e 1, e 7, e 8, ()) : V × V × V × V × Unit))) (fun x : V × V × V × V × Unit => upd (upd (upd (upd (fun _ => undefV) 8 (x.2.2.2.1)) 7 (x.2.2.1)) 1 (x.2.1)) 0 (x.1)) (fun _ => rfl) (@n161_2 q)
theorem W161_2_inv {q : Hid (V → H → Prop)} (I : Nat → V → V → V → V → H → Prop) (step : ∀ n x0 x1 x7 x8 h, I n x0 x1 x7 x8 h → @L161_2 x0 x1 x7 x8 h q ⟨fun y0 y1 y7 y8 h => ∃ m, m < n ∧ I m y0 y1 y7 y8 h⟩) (n : Nat) (x0 x1 x7 x8 : V) (h : H) (hi : I n x0 x1 x7 x8 h) : @W161_2 x0 x1 x7 x8 h q :=
  wFix_inv (@m161_2 q) (fun n x h => I n x.1 x.2.1 x.2.2.1 x.2.2.2.1 h) (fun n x h hi => step n x.1 x.2.1 x.2.2.1 x.2.2.2.1 h hi) n (x0, x1, x7, x8, ()) h hi
theorem W161_2_eq (x0 x1 x7 x8 : V) (h : H) {q : Hid (V → H → Prop)} : @W161_2 x0 x1 x7 x8 h q ↔ @L161_2 x0 x1 x7 x8 h q ⟨fun y0 y1 y7 y8 h => @W161_2 y0 y1 y7 y8 h q⟩ := wFix_unroll (@m161_2 q) (x0, x1, x7, x8, ()) h
def K161 (x0 x1 : V) (h : H) [q : Hid (V → H → Prop)] : Prop := @Bnd V (vLens x0) ⟨fun v1 => @W161_2 x0 x1 v1 (.i .i64 0) h q⟩
theorem p161 [q : Hid (V → H → Prop)] : den IP c161 (@Q161 q) = fun e h => @K161 (e 0) (e 1) h q := by
  refine Eq.trans (seq_eq (seq_eq (@p161_1 q) (seq_eq (block_eq (@w161_2 q)) rfl)) rfl) ?_
  kernel_rfl
theorem f161 (a0 a1 : V) (h : H) (Q : V → H → Prop) : @wF IP 161 [a0, a1] h ⟨Q⟩ ↔ @K161 a0 a1 h ⟨Q⟩ := (Fnc_den (ip161) (by kernel_rfl) (by kernel_rfl) h Q).trans (iff_of_eq (congrFun (congrFun (@p161 ⟨Q⟩) _) h))
end Go.Proofs.Ytonhcimkodgijaa.IrFetchOrder
