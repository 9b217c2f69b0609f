/-
  The abstract machine's text of the functions that WheelFar reaches, and: it is the loaded program's. Then the functions without temporaries.
-/
import Derived.Test.YtonhcimkodgijaaProg
import Derived.Test.YtonhcimkodgijaaMxT
import Derived.Test.YtonhcimkodgijaaMxU
namespace Go.Proofs.Ytonhcimkodgijaa.IrWheelFar
open Go Mx
set_option maxRecDepth 100000
set_option linter.unusedVariables false
/-! cableway/cablewaylaw13.WheelFar -/
def rs8 : List RV := [(.t 6)]
def o8_3 : List IOp := [⟨some 104, .pu (.pick (.t 100) (.t 103) (.c (.b false))), none⟩, ⟨some 6, .pu (.mov (.t 104)), none⟩] ++ []
def o8_4 : List IOp := [⟨some 101, .pu (.mov (.t 9)), some (100, true)⟩, ⟨some 102, .ef (.call 41 [(.t 101)]), some (100, true)⟩, ⟨some 103, .pu (.bin .eql (.t 102) (.c (.i .i64 0))), some (100, true)⟩] ++ o8_3
def o8_5 : List IOp := [⟨some 99, .pu (.pick (.t 95) (.t 98) (.c (.b false))), none⟩, ⟨some 100, .pu (.mov (.t 99)), none⟩] ++ o8_4
def o8_6 : List IOp := [⟨some 96, .pu (.fa 3 (.t 13)), some (95, true)⟩, ⟨some 97, .ld false 1 (.t 96), some (95, true)⟩, ⟨some 98, .pu (.bin .eql (.t 97) (.c (.i .i64 3))), some (95, true)⟩] ++ o8_5
def o8_7 : List IOp := [⟨some 94, .pu (.pick (.t 89) (.t 93) (.c (.b false))), none⟩, ⟨some 95, .pu (.mov (.t 94)), none⟩] ++ o8_6
def o8_8 : List IOp := [⟨some 90, .pu (.fa 0 (.t 13)), some (89, true)⟩, ⟨some 91, .ld false 1 (.t 90), some (89, true)⟩, ⟨some 92, .pu (.mov (.t 10)), some (89, true)⟩, ⟨some 93, .pu (.bin .eql (.t 91) (.t 92)), some (89, true)⟩] ++ o8_7
def o8_9 : List IOp := [⟨some 88, .pu (.pick (.t 86) (.t 87) (.c (.b false))), none⟩, ⟨some 89, .pu (.mov (.t 88)), none⟩] ++ o8_8
def o8_10 : List IOp := [⟨some 87, .pu (.mov (.t 14)), some (86, true)⟩] ++ o8_9
def o8_11 : List IOp := [⟨some 85, .ef (.call 45 []), none⟩, ⟨some 86, .pu (.mov (.t 85)), none⟩] ++ o8_10
def c8_2 : IC := (.seq (.region [⟨some 77, .pu (.mov (.t 9)), none⟩, ⟨some 78, .pu (.mov (.t 10)), none⟩, ⟨some 79, .ef (.call 35 [(.t 77), (.t 78)]), none⟩]) (.seq (.region [⟨some 81, .pu (.mov (.t 9)), none⟩, ⟨some 82, .ef (.call 37 [(.t 81)]), none⟩, ⟨some 80, .pu (.mov (.t 82)), none⟩, ⟨some 83, .pu (.ext (.t 80) 0), none⟩, ⟨some 84, .pu (.ext (.t 80) 1), none⟩, ⟨some 13, .al (.zero [(.i .i64 0), (.i .i64 0), (.i .i64 0), (.i .i64 0), (.i .i64 0)]), none⟩, ⟨none, .ef (.store 5 (.t 13) (.t 83)), none⟩, ⟨some 14, .pu (.mov (.t 84)), none⟩]) (.seq (.region o8_11) .ret)))
def c8_1 : IC := (.seq (.seq (.region [⟨some 68, .pu (.mov (.t 8)), none⟩, ⟨some 69, .pu (.bin .gtr (.t 68) (.c (.i .i64 0))), none⟩]) (.cond (.t 69) (.seq (.region [⟨some 70, .pu (.mov (.t 9)), none⟩, ⟨some 71, .pu (.mov (.t 10)), none⟩, ⟨some 72, .pu (.bin .sub (.t 71) (.c (.i .i64 1))), none⟩, ⟨some 73, .ef (.call 35 [(.t 70), (.t 72)]), none⟩]) (.seq (.region [⟨some 74, .pu (.mov (.t 9)), none⟩, ⟨some 75, .ef (.call 42 [(.t 74)]), none⟩, ⟨some 76, .pu (.bin .neq (.t 75) (.c (.i .i64 0))), none⟩]) (.cond (.t 76) (.seq (.region [⟨some 6, .pu (.mov (.c (.b false))), none⟩]) .ret) .skip))) .skip)) c8_2)
def c8_18 : IC := (.region [⟨some 42, .pu (.mov (.t 11)), none⟩, ⟨some 43, .pu (.bin .add (.t 42) (.c (.i .i64 1))), none⟩, ⟨some 11, .pu (.mov (.t 43)), none⟩])
def c8_19 : IC := (.cond (.t 67) (.seq (.region [⟨some 6, .pu (.mov (.c (.b false))), none⟩]) .ret) .skip)
def o8_20 : List IOp := [⟨some 67, .pu (.pick (.t 63) (.t 66) (.c (.b false))), none⟩] ++ []
def o8_21 : List IOp := [⟨some 64, .pu (.mov (.t 10)), some (63, true)⟩, ⟨some 65, .pu (.mov (.t 7)), some (63, true)⟩, ⟨some 66, .pu (.bin .gtr (.t 64) (.t 65)), some (63, true)⟩] ++ o8_20
def o8_22 : List IOp := [⟨some 60, .pu (.mov (.t 9)), none⟩, ⟨some 61, .ef (.call 42 [(.t 60)]), none⟩, ⟨some 62, .pu (.bin .neq (.t 61) (.c (.i .i64 0))), none⟩, ⟨some 63, .pu (.mov (.t 62)), none⟩] ++ o8_21
def c8_17 : IC := (.seq (.block 1 (.seq (.region [⟨some 44, .pu (.mov (.t 2)), none⟩, ⟨some 45, .pu (.mov (.t 11)), none⟩, ⟨some 46, .pu (.ia 1 (.t 44) (.t 45)), none⟩, ⟨some 47, .ld false 1 (.t 46), none⟩, ⟨some 48, .pu (.bin .and (.t 47) (.c (.i .i64 4095))), none⟩, ⟨some 12, .pu (.mov (.t 48)), none⟩]) (.seq (.seq (.region [⟨some 49, .pu (.mov (.t 7)), none⟩, ⟨some 50, .pu (.mov (.t 12)), none⟩, ⟨some 51, .pu (.bin .add (.t 49) (.t 50)), none⟩, ⟨some 52, .pu (.mov (.t 10)), none⟩, ⟨some 53, .pu (.bin .geq (.t 51) (.t 52)), none⟩]) (.cond (.t 53) (.exit 0) .skip)) (.seq (.region [⟨some 54, .pu (.mov (.t 7)), none⟩, ⟨some 55, .pu (.mov (.t 12)), none⟩, ⟨some 56, .pu (.bin .add (.t 54) (.t 55)), none⟩, ⟨some 7, .pu (.mov (.t 56)), none⟩]) (.seq (.region [⟨some 57, .pu (.mov (.t 9)), none⟩, ⟨some 58, .pu (.mov (.t 7)), none⟩, ⟨some 59, .ef (.call 35 [(.t 57), (.t 58)]), none⟩]) (.seq (.region o8_22) c8_19)))))) c8_18)
def c8_24 : IC := (.cond (.t 41) .skip (.exit 0))
def o8_25 : List IOp := [⟨some 41, .pu (.pick (.t 38) (.t 40) (.c (.b false))), none⟩] ++ []
def o8_26 : List IOp := [⟨some 39, .pu (.mov (.t 11)), some (38, true)⟩, ⟨some 40, .pu (.bin .lss (.t 39) (.c (.i .i64 30))), some (38, true)⟩] ++ o8_25
def o8_27 : List IOp := [⟨some 34, .pu (.mov (.t 11)), none⟩, ⟨some 35, .pu (.mov (.t 2)), none⟩, ⟨some 36, .pu (.lens (.t 35)), none⟩, ⟨some 37, .pu (.bin .lss (.t 34) (.t 36)), none⟩, ⟨some 38, .pu (.mov (.t 37)), none⟩] ++ o8_26
def c8_16 : IC := (.seq (.seq (.region o8_27) c8_24) c8_17)
def c8 : IC := (.seq (.region [⟨some 6, .pu (.mov (.c (.b false))), none⟩]) (.seq (.region [⟨some 15, .pu (.mov (.t 0)), none⟩, ⟨some 16, .pu (.bin .and (.t 15) (.c (.i .i64 68719476735))), none⟩, ⟨some 17, .pu (.mov (.t 1)), none⟩, ⟨some 18, .pu (.bin .and (.t 17) (.c (.i .i64 4294967295))), none⟩, ⟨some 19, .pu (.mov (.t 1)), none⟩, ⟨some 20, .pu (.bin .shr (.t 19) (.c (.i .u64 40))), none⟩, ⟨some 21, .pu (.bin .and (.t 20) (.c (.i .i64 31))), none⟩, ⟨some 22, .pu (.cvi .u64 (.t 21)), none⟩, ⟨some 23, .pu (.bin .shr (.t 18) (.t 22)), none⟩, ⟨some 7, .pu (.mov (.t 16)), none⟩, ⟨some 8, .pu (.mov (.t 23)), none⟩]) (.seq (.region [⟨some 24, .pu (.mov (.t 7)), none⟩, ⟨some 25, .ef (.call 34 [(.t 24)]), none⟩, ⟨some 9, .pu (.mov (.t 25)), none⟩]) (.seq (.region [⟨some 26, .pu (.mov (.t 7)), none⟩, ⟨some 27, .pu (.mov (.t 8)), none⟩, ⟨some 28, .pu (.bin .add (.t 26) (.t 27)), none⟩, ⟨some 10, .pu (.mov (.t 28)), none⟩]) (.seq (.seq (.region [⟨some 29, .pu (.mov (.t 9)), none⟩, ⟨some 30, .pu (.mov (.t 10)), none⟩, ⟨some 31, .pu (.bld [(.i .i64 0), (.i .i64 0), (.i .i64 0), (.i .i64 0), (.i .i64 0)] [(0, 1, (.t 30)), (3, 1, (.c (.i .i64 3)))]), none⟩, ⟨some 32, .ef (.call 40 [(.t 29), (.t 31)]), none⟩, ⟨some 33, .pu (.un .not (.t 32)), none⟩]) (.cond (.t 33) (.seq (.region [⟨some 6, .pu (.mov (.c (.b false))), none⟩]) .ret) .skip)) (.seq (.seq (.region [⟨some 11, .pu (.mov (.c (.i .i64 0))), none⟩]) (.block 0 (.loop c8_16))) c8_1))))))
def ir8 : IFn := ⟨105, rs8, c8⟩
/-! cableway/wheel.New -/
def rs34 : List RV := [(.t 2)]
def c34 : IC := (.seq (.region [⟨some 2, .pu (.mov (.c (.p none))), none⟩]) (.seq (.region [⟨some 3, .pu (.mov (.t 0)), none⟩, ⟨some 4, .ef (.call 86 [(.t 3)]), none⟩, ⟨some 5, .pu (.bld [(.i .i64 0), .nsl, .nsl, .nsl, .nsl, .nsl, .nsl, .nsl, .nsl, .nsl, .nsl, .nsl, .nsl, .nsl, .nsl, .nsl, .nsl, .nsl, .nsl, .nsl, .nsl, .nsl, .nsl, .nsl, .nsl, .nsl, .nsl, .nsl, .nsl, .nsl, .nsl, .nsl, .nsl, .nsl, .nsl, .nsl, .nsl, .nsl, .nsl, .nsl, .nsl, .nsl, .nsl, .nsl, .nsl, .nsl, .nsl, .nsl, .nsl, .nsl, .nsl, (.i .i64 0), (.i .i64 0)] [(0, 1, (.t 4))]), none⟩, ⟨some 6, .al (.box (.t 5)), none⟩, ⟨some 2, .pu (.mov (.t 6)), none⟩]) .ret))
def ir34 : IFn := ⟨7, rs34, c34⟩
/-! (*cableway/wheel.Wheel).Advance -/
def rs35 : List RV := []
def c35_3 : IC := (.seq (.seq (.region [⟨some 26, .pu (.mov (.t 0)), none⟩, ⟨some 27, .pu (.nilc (.t 26)), none⟩, ⟨some 28, .pu (.fa 0 (.t 27)), none⟩, ⟨some 29, .ld false 1 (.t 28), none⟩, ⟨some 30, .pu (.mov (.t 1)), none⟩, ⟨some 31, .pu (.bin .lss (.t 29) (.t 30)), none⟩]) (.cond (.t 31) .skip (.exit 0))) (.block 1 (.region [⟨some 32, .pu (.mov (.t 0)), none⟩, ⟨some 33, .ef (.call 88 [(.t 32)]), none⟩])))
def c35_2 : IC := (.block 0 (.loop c35_3))
def c35_1 : IC := (.seq (.seq (.region [⟨some 16, .pu (.mov (.t 1)), none⟩, ⟨some 17, .pu (.mov (.t 0)), none⟩, ⟨some 18, .pu (.nilc (.t 17)), none⟩, ⟨some 19, .pu (.fa 0 (.t 18)), none⟩, ⟨some 20, .ld false 1 (.t 19), none⟩, ⟨some 21, .pu (.bin .sub (.t 16) (.t 20)), none⟩, ⟨some 22, .pu (.bin .geq (.t 21) (.c (.i .i64 4096))), none⟩]) (.cond (.t 22) (.region [⟨some 23, .pu (.mov (.t 0)), none⟩, ⟨some 24, .pu (.mov (.t 1)), none⟩, ⟨some 25, .ef (.call 87 [(.t 23), (.t 24)]), none⟩]) .skip)) c35_2)
def c35_4 : IC := (.cond (.t 15) .ret .skip)
def o35_5 : List IOp := [⟨some 15, .pu (.pick (.t 8) (.c (.b true)) (.t 14)), none⟩] ++ []
def o35_6 : List IOp := [⟨some 9, .pu (.mov (.t 1)), some (8, false)⟩, ⟨some 10, .pu (.mov (.t 0)), some (8, false)⟩, ⟨some 11, .pu (.nilc (.t 10)), some (8, false)⟩, ⟨some 12, .pu (.fa 0 (.t 11)), some (8, false)⟩, ⟨some 13, .ld false 1 (.t 12), some (8, false)⟩, ⟨some 14, .pu (.bin .leq (.t 9) (.t 13)), some (8, false)⟩] ++ o35_5
def o35_7 : List IOp := [⟨some 6, .pu (.mov (.t 0)), none⟩, ⟨some 7, .pu (.eqz false .p (.t 6) (.c (.p none))), none⟩, ⟨some 8, .pu (.mov (.t 7)), none⟩] ++ o35_6
def c35 : IC := (.seq (.region [⟨some 4, .pu (.mov (.t 1)), none⟩, ⟨some 5, .ef (.call 86 [(.t 4)]), none⟩, ⟨some 1, .pu (.mov (.t 5)), none⟩]) (.seq (.seq (.region o35_7) c35_4) c35_1))
def ir35 : IFn := ⟨34, rs35, c35⟩
/-! (*cableway/wheel.Wheel).Take -/
def rs37 : List RV := [(.c 2 true 5), (.t 3)]
def c37_1 : IC := (.seq (.region [⟨some 33, .pu (.mov (.t 0)), none⟩, ⟨some 34, .pu (.nilc (.t 33)), none⟩, ⟨some 35, .pu (.fa 50 (.t 34)), none⟩, ⟨some 36, .ld false 1 (.t 35), none⟩, ⟨some 37, .pu (.mov (.t 4)), none⟩, ⟨some 38, .pu (.ia 6 (.t 36) (.t 37)), none⟩, ⟨some 39, .ld true 6 (.t 38), none⟩, ⟨some 7, .al (.zero [(.i .i64 0), (.i .i64 0), (.i .i64 0), (.i .i64 0), (.i .i64 0), (.i .i64 0)]), none⟩, ⟨none, .ef (.store 6 (.t 7) (.t 39)), none⟩]) (.seq (.draw [⟨some 40, .pu (.mov (.t 0)), none⟩, ⟨some 41, .pu (.mov (.t 0)), none⟩, ⟨some 42, .pu (.nilc (.t 41)), none⟩, ⟨some 43, .pu (.fa 50 (.t 42)), none⟩, ⟨some 44, .ld false 1 (.t 43), none⟩, ⟨some 45, .pu (.mov (.t 4)), none⟩, ⟨some 46, .pu (.mov (.t 4)), none⟩, ⟨some 47, .pu (.sls 6 (.t 44) none (some (.t 45)) (some (.t 46))), none⟩, ⟨some 48, .pu (.mov (.t 0)), none⟩, ⟨some 49, .pu (.nilc (.t 48)), none⟩, ⟨some 50, .pu (.fa 50 (.t 49)), none⟩, ⟨some 51, .ld false 1 (.t 50), none⟩, ⟨some 52, .pu (.mov (.t 4)), none⟩, ⟨some 53, .pu (.bin .add (.t 52) (.c (.i .i64 1))), none⟩, ⟨some 54, .pu (.sls 6 (.t 51) (some (.t 53)) none none), none⟩, ⟨some 55, .ef (.app 6 48 (.t 47) (.t 54)), none⟩, ⟨some 56, .pu (.nilc (.t 40)), none⟩, ⟨some 57, .pu (.fa 50 (.t 56)), none⟩, ⟨none, .ef (.store 1 (.t 57) (.t 55)), none⟩] []) (.seq (.region [⟨some 58, .pu (.mov (.t 0)), none⟩, ⟨some 59, .pu (.nilc (.t 58)), none⟩, ⟨some 60, .pu (.fa 51 (.t 59)), none⟩, ⟨some 61, .ld false 1 (.t 60), none⟩, ⟨some 62, .pu (.bin .sub (.t 61) (.c (.i .i64 1))), none⟩, ⟨some 63, .pu (.nilc (.t 58)), none⟩, ⟨some 64, .pu (.fa 51 (.t 63)), none⟩, ⟨none, .ef (.store 1 (.t 64) (.t 62)), none⟩]) (.seq (.region [⟨some 65, .pu (.fa 0 (.t 7)), none⟩, ⟨some 66, .ld true 5 (.t 65), none⟩, ⟨none, .ef (.store 5 (.t 2) (.t 66)), none⟩, ⟨some 3, .pu (.mov (.c (.b true))), none⟩]) .ret))))
def c37_3 : IC := (.region [⟨some 32, .pu (.bin .add (.t 17) (.c (.i .i64 1))), none⟩, ⟨some 17, .pu (.mov (.t 32)), none⟩])
def c37_2 : IC := (.seq (.region [⟨some 18, .pu (.bin .lss (.t 17) (.t 16)), none⟩]) (.seq (.cond (.t 18) .skip (.exit 0)) (.seq (.block 1 (.seq (.region [⟨some 19, .pu (.mov (.t 17)), none⟩, ⟨some 20, .pu (.ia 6 (.t 15) (.t 17)), none⟩, ⟨some 21, .ld true 6 (.t 20), none⟩, ⟨some 6, .al (.zero [(.i .i64 0), (.i .i64 0), (.i .i64 0), (.i .i64 0), (.i .i64 0), (.i .i64 0)]), none⟩, ⟨some 5, .pu (.mov (.t 19)), none⟩, ⟨none, .ef (.store 6 (.t 6) (.t 21)), none⟩]) (.seq (.draw [⟨some 22, .ld true 6 (.t 6), none⟩, ⟨some 23, .pu (.mov (.t 0)), none⟩, ⟨some 24, .pu (.nilc (.t 23)), none⟩, ⟨some 25, .pu (.fa 50 (.t 24)), none⟩, ⟨some 26, .ld false 1 (.t 25), none⟩, ⟨some 27, .pu (.mov (.t 4)), none⟩, ⟨some 28, .pu (.ia 6 (.t 26) (.t 27)), none⟩, ⟨some 29, .ld true 6 (.t 28), none⟩, ⟨some 30, .ef (.call 90 [(.t 22), (.t 29)]), none⟩] []) (.cond (.t 30) (.region [⟨some 31, .pu (.mov (.t 5)), none⟩, ⟨some 4, .pu (.mov (.t 31)), none⟩]) .skip)))) c37_3)))
def c37 : IC := (.seq (.region [⟨some 2, .al (.zero [(.i .i64 0), (.i .i64 0), (.i .i64 0), (.i .i64 0), (.i .i64 0)]), none⟩, ⟨some 3, .pu (.mov (.c (.b false))), none⟩]) (.seq (.seq (.region [⟨some 8, .pu (.mov (.t 0)), none⟩, ⟨some 9, .ef (.call 42 [(.t 8)]), none⟩, ⟨some 10, .pu (.bin .eql (.t 9) (.c (.i .i64 0))), none⟩]) (.cond (.t 10) (.seq (.region [⟨some 11, .pu (.bld [(.i .i64 0), (.i .i64 0), (.i .i64 0), (.i .i64 0), (.i .i64 0)] []), none⟩, ⟨none, .ef (.store 5 (.t 2) (.t 11)), none⟩, ⟨some 3, .pu (.mov (.c (.b false))), none⟩]) .ret) .skip)) (.seq (.region [⟨some 4, .pu (.mov (.c (.i .i64 0))), none⟩]) (.seq (.seq (.region [⟨some 12, .pu (.mov (.t 0)), none⟩, ⟨some 13, .pu (.nilc (.t 12)), none⟩, ⟨some 14, .pu (.fa 50 (.t 13)), none⟩, ⟨some 15, .ld false 1 (.t 14), none⟩, ⟨some 16, .pu (.lens (.t 15)), none⟩, ⟨some 17, .pu (.mov (.c (.i .i64 0))), none⟩]) (.block 0 (.loop c37_2))) c37_1))))
def ir37 : IFn := ⟨67, rs37, c37⟩
/-! (*cableway/wheel.Wheel).Put -/
def rs40 : List RV := [(.t 4)]
def c40_1 : IC := (.seq (.region [⟨some 16, .pu (.mov (.t 0)), none⟩, ⟨some 17, .ld true 5 (.t 3), none⟩, ⟨some 18, .ef (.call 93 [(.t 16), (.t 17)]), none⟩]) (.seq (.seq (.region [⟨some 19, .pu (.mov (.t 0)), none⟩, ⟨some 20, .pu (.nilc (.t 19)), none⟩, ⟨some 21, .pu (.fa 51 (.t 20)), none⟩, ⟨some 22, .ld false 1 (.t 21), none⟩, ⟨some 23, .pu (.bin .geq (.t 22) (.c (.i .i64 256))), none⟩]) (.cond (.t 23) (.seq (.region [⟨some 4, .pu (.mov (.c (.b false))), none⟩]) .ret) .skip)) (.seq (.region [⟨some 24, .pu (.mov (.t 0)), none⟩, ⟨some 25, .pu (.nilc (.t 24)), none⟩, ⟨some 26, .pu (.fa 51 (.t 25)), none⟩, ⟨some 27, .ld false 1 (.t 26), none⟩, ⟨some 28, .pu (.bin .add (.t 27) (.c (.i .i64 1))), none⟩, ⟨some 29, .pu (.nilc (.t 24)), none⟩, ⟨some 30, .pu (.fa 51 (.t 29)), none⟩, ⟨none, .ef (.store 1 (.t 30) (.t 28)), none⟩]) (.seq (.region [⟨some 31, .pu (.mov (.t 0)), none⟩, ⟨some 32, .pu (.nilc (.t 31)), none⟩, ⟨some 33, .pu (.fa 52 (.t 32)), none⟩, ⟨some 34, .ld false 1 (.t 33), none⟩, ⟨some 35, .pu (.bin .add (.t 34) (.c (.i .i64 1))), none⟩, ⟨some 36, .pu (.nilc (.t 31)), none⟩, ⟨some 37, .pu (.fa 52 (.t 36)), none⟩, ⟨none, .ef (.store 1 (.t 37) (.t 35)), none⟩]) (.seq (.draw [⟨some 38, .pu (.mov (.t 0)), none⟩, ⟨some 39, .ld true 5 (.t 3), none⟩, ⟨some 40, .pu (.mov (.t 0)), none⟩, ⟨some 41, .pu (.nilc (.t 40)), none⟩, ⟨some 42, .pu (.fa 52 (.t 41)), none⟩, ⟨some 43, .ld false 1 (.t 42), none⟩, ⟨some 44, .pu (.bld [(.i .i64 0), (.i .i64 0), (.i .i64 0), (.i .i64 0), (.i .i64 0), (.i .i64 0)] [(0, 5, (.t 39)), (5, 1, (.t 43))]), none⟩, ⟨some 45, .ef (.call 94 [(.t 38), (.t 44)]), none⟩] []) (.seq (.region [⟨some 4, .pu (.mov (.c (.b true))), none⟩]) .ret))))))
def c40_2 : IC := (.cond (.t 15) (.seq (.region [⟨some 4, .pu (.mov (.c (.b false))), none⟩]) .ret) .skip)
def o40_3 : List IOp := [⟨some 15, .pu (.pick (.t 11) (.c (.b true)) (.t 14)), none⟩] ++ []
def o40_4 : List IOp := [⟨some 12, .pu (.fa 0 (.t 3)), some (11, false)⟩, ⟨some 13, .ld false 1 (.t 12), some (11, false)⟩, ⟨some 14, .pu (.bin .eql (.t 13) (.c (.i .i64 1099511627776))), some (11, false)⟩] ++ o40_3
def o40_5 : List IOp := [⟨some 9, .pu (.mov (.t 0)), none⟩, ⟨some 10, .pu (.eqz false .p (.t 9) (.c (.p none))), none⟩, ⟨some 11, .pu (.mov (.t 10)), none⟩] ++ o40_4
def c40 : IC := (.seq (.region [⟨some 3, .al (.box (.t 1)), none⟩, ⟨some 4, .pu (.mov (.c (.b false))), none⟩]) (.seq (.region [⟨some 5, .pu (.fa 0 (.t 3)), none⟩, ⟨some 6, .ld false 1 (.t 5), none⟩, ⟨some 7, .ef (.call 86 [(.t 6)]), none⟩, ⟨some 8, .pu (.fa 0 (.t 3)), none⟩, ⟨none, .ef (.store 1 (.t 8) (.t 7)), none⟩]) (.seq (.seq (.region o40_5) c40_2) c40_1)))
def ir40 : IFn := ⟨46, rs40, c40⟩
/-! (*cableway/wheel.Wheel).Len -/
def rs41 : List RV := [(.t 2)]
def c41 : IC := (.seq (.region [⟨some 2, .pu (.mov (.c (.i .i64 0))), none⟩]) (.seq (.seq (.region [⟨some 3, .pu (.mov (.t 0)), none⟩, ⟨some 4, .pu (.eqz false .p (.t 3) (.c (.p none))), none⟩]) (.cond (.t 4) (.seq (.region [⟨some 2, .pu (.mov (.c (.i .i64 0))), none⟩]) .ret) .skip)) (.seq (.region [⟨some 5, .pu (.mov (.t 0)), none⟩, ⟨some 6, .pu (.nilc (.t 5)), none⟩, ⟨some 7, .pu (.fa 51 (.t 6)), none⟩, ⟨some 8, .ld false 1 (.t 7), none⟩, ⟨some 2, .pu (.mov (.t 8)), none⟩]) .ret)))
def ir41 : IFn := ⟨9, rs41, c41⟩
/-! (*cableway/wheel.Wheel).Come -/
def rs42 : List RV := [(.t 2)]
def c42 : IC := (.seq (.region [⟨some 2, .pu (.mov (.c (.i .i64 0))), none⟩]) (.seq (.seq (.region [⟨some 3, .pu (.mov (.t 0)), none⟩, ⟨some 4, .pu (.eqz false .p (.t 3) (.c (.p none))), none⟩]) (.cond (.t 4) (.seq (.region [⟨some 2, .pu (.mov (.c (.i .i64 0))), none⟩]) .ret) .skip)) (.seq (.region [⟨some 5, .pu (.mov (.t 0)), none⟩, ⟨some 6, .pu (.nilc (.t 5)), none⟩, ⟨some 7, .pu (.fa 50 (.t 6)), none⟩, ⟨some 8, .ld false 1 (.t 7), none⟩, ⟨some 9, .pu (.lens (.t 8)), none⟩, ⟨some 2, .pu (.mov (.t 9)), none⟩]) .ret)))
def ir42 : IFn := ⟨10, rs42, c42⟩
/-! (*cableway/wheel.Wheel).Now -/
def rs44 : List RV := [(.t 2)]
def c44 : IC := (.seq (.region [⟨some 2, .pu (.mov (.c (.i .i64 0))), none⟩]) (.seq (.seq (.region [⟨some 3, .pu (.mov (.t 0)), none⟩, ⟨some 4, .pu (.eqz false .p (.t 3) (.c (.p none))), none⟩]) (.cond (.t 4) (.seq (.region [⟨some 2, .pu (.mov (.c (.i .i64 0))), none⟩]) .ret) .skip)) (.seq (.region [⟨some 5, .pu (.mov (.t 0)), none⟩, ⟨some 6, .pu (.nilc (.t 5)), none⟩, ⟨some 7, .pu (.fa 0 (.t 6)), none⟩, ⟨some 8, .ld false 1 (.t 7), none⟩, ⟨some 2, .pu (.mov (.t 8)), none⟩]) .ret)))
def ir44 : IFn := ⟨9, rs44, c44⟩
/-! cableway/cablewaylaw13.awake -/
def rs45 : List RV := [(.t 0)]
def o45_1 : List IOp := [⟨some 43, .pu (.pick (.t 39) (.t 42) (.c (.b false))), none⟩, ⟨some 0, .pu (.mov (.t 43)), none⟩] ++ []
def o45_2 : List IOp := [⟨some 40, .pu (.mov (.t 1)), some (39, true)⟩, ⟨some 41, .ef (.call 44 [(.t 40)]), some (39, true)⟩, ⟨some 42, .pu (.bin .eql (.t 41) (.c (.i .i64 5))), some (39, true)⟩] ++ o45_1
def o45_3 : List IOp := [⟨some 38, .pu (.pick (.t 34) (.t 37) (.c (.b false))), none⟩, ⟨some 39, .pu (.mov (.t 38)), none⟩] ++ o45_2
def o45_4 : List IOp := [⟨some 35, .pu (.mov (.t 1)), some (34, true)⟩, ⟨some 36, .ef (.call 41 [(.t 35)]), some (34, true)⟩, ⟨some 37, .pu (.bin .eql (.t 36) (.c (.i .i64 0))), some (34, true)⟩] ++ o45_3
def o45_5 : List IOp := [⟨some 33, .pu (.pick (.t 29) (.t 32) (.c (.b false))), none⟩, ⟨some 34, .pu (.mov (.t 33)), none⟩] ++ o45_4
def o45_6 : List IOp := [⟨some 30, .pu (.fa 3 (.t 4)), some (29, true)⟩, ⟨some 31, .ld false 1 (.t 30), some (29, true)⟩, ⟨some 32, .pu (.bin .eql (.t 31) (.c (.i .i64 1))), some (29, true)⟩] ++ o45_5
def o45_7 : List IOp := [⟨some 28, .pu (.pick (.t 26) (.t 27) (.c (.b false))), none⟩, ⟨some 29, .pu (.mov (.t 28)), none⟩] ++ o45_6
def o45_8 : List IOp := [⟨some 27, .pu (.mov (.t 5)), some (26, true)⟩] ++ o45_7
def o45_9 : List IOp := [⟨some 25, .pu (.pick (.t 22) (.t 24) (.c (.b false))), none⟩, ⟨some 26, .pu (.mov (.t 25)), none⟩] ++ o45_8
def o45_10 : List IOp := [⟨some 23, .pu (.mov (.t 3)), some (22, true)⟩, ⟨some 24, .pu (.bin .eql (.t 23) (.c (.i .i64 0))), some (22, true)⟩] ++ o45_9
def o45_11 : List IOp := [⟨some 21, .pu (.mov (.t 2)), none⟩, ⟨some 22, .pu (.mov (.t 21)), none⟩] ++ o45_10
def c45 : IC := (.seq (.region [⟨some 0, .pu (.mov (.c (.b false))), none⟩]) (.seq (.region [⟨some 6, .ef (.call 34 [(.c (.i .i64 0))]), none⟩, ⟨some 1, .pu (.mov (.t 6)), none⟩]) (.seq (.region [⟨some 7, .pu (.mov (.t 1)), none⟩, ⟨some 8, .pu (.bld [(.i .i64 0), (.i .i64 0), (.i .i64 0), (.i .i64 0), (.i .i64 0)] [(0, 1, (.c (.i .i64 5))), (3, 1, (.c (.i .i64 1)))]), none⟩, ⟨some 9, .ef (.call 40 [(.t 7), (.t 8)]), none⟩, ⟨some 2, .pu (.mov (.t 9)), none⟩]) (.seq (.region [⟨some 10, .pu (.mov (.t 1)), none⟩, ⟨some 11, .ef (.call 35 [(.t 10), (.c (.i .i64 4))]), none⟩]) (.seq (.region [⟨some 12, .pu (.mov (.t 1)), none⟩, ⟨some 13, .ef (.call 42 [(.t 12)]), none⟩, ⟨some 3, .pu (.mov (.t 13)), none⟩]) (.seq (.region [⟨some 14, .pu (.mov (.t 1)), none⟩, ⟨some 15, .ef (.call 35 [(.t 14), (.c (.i .i64 5))]), none⟩]) (.seq (.region [⟨some 17, .pu (.mov (.t 1)), none⟩, ⟨some 18, .ef (.call 37 [(.t 17)]), none⟩, ⟨some 16, .pu (.mov (.t 18)), none⟩, ⟨some 19, .pu (.ext (.t 16) 0), none⟩, ⟨some 20, .pu (.ext (.t 16) 1), none⟩, ⟨some 4, .al (.zero [(.i .i64 0), (.i .i64 0), (.i .i64 0), (.i .i64 0), (.i .i64 0)]), none⟩, ⟨none, .ef (.store 5 (.t 4) (.t 19)), none⟩, ⟨some 5, .pu (.mov (.t 20)), none⟩]) (.seq (.region o45_11) .ret))))))))
def ir45 : IFn := ⟨44, rs45, c45⟩
/-! cableway/ticks.Clamp -/
def rs86 : List RV := [(.t 2)]
def c86 : IC := (.seq (.region [⟨some 2, .pu (.mov (.c (.i .i64 0))), none⟩]) (.seq (.region [⟨some 3, .pu (.mov (.t 0)), none⟩, ⟨some 4, .pu (.max (.t 3) [(.c (.i .i64 0))]), none⟩, ⟨some 5, .pu (.min (.t 4) [(.c (.i .i64 1099511627776))]), none⟩, ⟨some 2, .pu (.mov (.t 5)), none⟩]) .ret))
def ir86 : IFn := ⟨6, rs86, c86⟩
/-! (*cableway/wheel.Wheel).jump -/
def rs87 : List RV := []
def c87_2 : IC := (.region [⟨some 23, .pu (.bin .add (.t 12) (.c (.i .i64 1))), none⟩, ⟨some 12, .pu (.mov (.t 23)), none⟩])
def c87_3 : IC := (.seq (.region [⟨some 16, .pu (.bin .lss (.t 15) (.c (.i .i64 16))), none⟩]) (.seq (.cond (.t 16) .skip (.exit 2)) (.seq (.block 3 (.seq (.region [⟨some 17, .pu (.mov (.t 15)), none⟩, ⟨some 5, .pu (.mov (.t 17)), none⟩]) (.region [⟨some 18, .pu (.mov (.t 0)), none⟩, ⟨some 19, .pu (.mov (.t 4)), none⟩, ⟨some 20, .pu (.mov (.t 5)), none⟩, ⟨some 21, .ef (.call 128 [(.t 18), (.t 19), (.t 20)]), none⟩]))) (.region [⟨some 22, .pu (.bin .add (.t 15) (.c (.i .i64 1))), none⟩, ⟨some 15, .pu (.mov (.t 22)), none⟩]))))
def c87_1 : IC := (.seq (.region [⟨some 13, .pu (.bin .lss (.t 12) (.c (.i .i64 3))), none⟩]) (.seq (.cond (.t 13) .skip (.exit 0)) (.seq (.block 1 (.seq (.region [⟨some 14, .pu (.mov (.t 12)), none⟩, ⟨some 4, .pu (.mov (.t 14)), none⟩]) (.seq (.region [⟨some 15, .pu (.mov (.c (.i .i64 0))), none⟩]) (.block 2 (.loop c87_3))))) c87_2)))
def c87 : IC := (.seq (.region [⟨some 6, .pu (.mov (.t 0)), none⟩, ⟨some 7, .pu (.mov (.t 1)), none⟩, ⟨some 8, .pu (.nilc (.t 6)), none⟩, ⟨some 9, .pu (.fa 0 (.t 8)), none⟩, ⟨none, .ef (.store 1 (.t 9) (.t 7)), none⟩]) (.seq (.region [⟨some 10, .pu (.mov (.t 0)), none⟩, ⟨some 11, .ef (.call 127 [(.t 10)]), none⟩]) (.seq (.region [⟨some 12, .pu (.mov (.c (.i .i64 0))), none⟩]) (.block 0 (.loop c87_1)))))
def ir87 : IFn := ⟨24, rs87, c87⟩
/-! (*cableway/wheel.Wheel).tick -/
def rs88 : List RV := []
def c88_3 : IC := (.region [⟨some 20, .pu (.mov (.t 2)), none⟩, ⟨some 21, .pu (.bin .sub (.t 20) (.c (.i .i64 1))), none⟩, ⟨some 2, .pu (.mov (.t 21)), none⟩])
def c88_2 : IC := (.seq (.seq (.region [⟨some 18, .pu (.mov (.t 2)), none⟩, ⟨some 19, .pu (.bin .geq (.t 18) (.c (.i .i64 0))), none⟩]) (.cond (.t 19) .skip (.exit 0))) (.seq (.block 1 (.seq (.draw [⟨some 22, .pu (.mov (.t 0)), none⟩, ⟨some 23, .pu (.nilc (.t 22)), none⟩, ⟨some 24, .pu (.fa 0 (.t 23)), none⟩, ⟨some 25, .ld false 1 (.t 24), none⟩, ⟨some 26, .pu (.mov (.t 2)), none⟩, ⟨some 27, .ef (.call 129 [(.t 26)]), none⟩, ⟨some 28, .pu (.bin .rem (.t 25) (.t 27)), none⟩, ⟨some 29, .pu (.bin .eql (.t 28) (.c (.i .i64 0))), none⟩] [(3, 5)]) (.cond (.t 29) (.draw [⟨some 30, .pu (.mov (.t 0)), none⟩, ⟨some 31, .pu (.mov (.t 2)), none⟩, ⟨some 32, .pu (.mov (.t 0)), none⟩, ⟨some 33, .pu (.nilc (.t 32)), none⟩, ⟨some 34, .pu (.fa 0 (.t 33)), none⟩, ⟨some 35, .ld false 1 (.t 34), none⟩, ⟨some 36, .pu (.mov (.t 2)), none⟩, ⟨some 37, .ef (.call 129 [(.t 36)]), none⟩, ⟨some 38, .ef (.call 130 [(.t 35), (.t 37), (.c (.i .i64 16))]), none⟩, ⟨some 39, .ef (.call 128 [(.t 30), (.t 31), (.t 38)]), none⟩] [(5, 7)]) .skip))) c88_3))
def c88_1 : IC := (.seq (.region [⟨some 2, .pu (.mov (.c (.i .i64 2))), none⟩]) (.block 0 (.loop c88_2)))
def c88 : IC := (.seq (.region [⟨some 3, .pu (.mov (.t 0)), none⟩, ⟨some 4, .pu (.nilc (.t 3)), none⟩, ⟨some 5, .pu (.fa 0 (.t 4)), none⟩, ⟨some 6, .ld false 1 (.t 5), none⟩, ⟨some 7, .pu (.bin .add (.t 6) (.c (.i .i64 1))), none⟩, ⟨some 8, .pu (.nilc (.t 3)), none⟩, ⟨some 9, .pu (.fa 0 (.t 8)), none⟩, ⟨none, .ef (.store 1 (.t 9) (.t 7)), none⟩]) (.seq (.seq (.region [⟨some 10, .pu (.mov (.t 0)), none⟩, ⟨some 11, .pu (.nilc (.t 10)), none⟩, ⟨some 12, .pu (.fa 49 (.t 11)), none⟩, ⟨some 13, .ld false 1 (.t 12), none⟩, ⟨some 14, .pu (.lens (.t 13)), none⟩, ⟨some 15, .pu (.bin .gtr (.t 14) (.c (.i .i64 0))), none⟩]) (.cond (.t 15) (.region [⟨some 16, .pu (.mov (.t 0)), none⟩, ⟨some 17, .ef (.call 127 [(.t 16)]), none⟩]) .skip)) c88_1))
def ir88 : IFn := ⟨40, rs88, c88⟩
/-! (cableway/wheel.entry).ahead -/
def rs90 : List RV := [(.t 4)]
def o90_1 : List IOp := [⟨some 27, .pu (.pick (.t 12) (.c (.b true)) (.t 26)), none⟩, ⟨some 4, .pu (.mov (.t 27)), none⟩] ++ []
def o90_2 : List IOp := [⟨some 26, .pu (.pick (.t 20) (.t 25) (.c (.b false))), some (12, false)⟩] ++ o90_1
def o90_3 : List IOp := [⟨some 21, .pu (.fa 5 (.t 2)), some (20, true)⟩, ⟨some 22, .ld false 1 (.t 21), some (20, true)⟩, ⟨some 23, .pu (.fa 5 (.t 3)), some (20, true)⟩, ⟨some 24, .ld false 1 (.t 23), some (20, true)⟩, ⟨some 25, .pu (.bin .lss (.t 22) (.t 24)), some (20, true)⟩] ++ o90_2
def o90_4 : List IOp := [⟨some 13, .pu (.fa 0 (.t 2)), some (12, false)⟩, ⟨some 14, .pu (.fa 0 (.t 13)), some (12, false)⟩, ⟨some 15, .ld false 1 (.t 14), some (12, false)⟩, ⟨some 16, .pu (.fa 0 (.t 3)), some (12, false)⟩, ⟨some 17, .pu (.fa 0 (.t 16)), some (12, false)⟩, ⟨some 18, .ld false 1 (.t 17), some (12, false)⟩, ⟨some 19, .pu (.bin .eql (.t 15) (.t 18)), some (12, false)⟩, ⟨some 20, .pu (.mov (.t 19)), some (12, false)⟩] ++ o90_3
def o90_5 : List IOp := [⟨some 5, .pu (.fa 0 (.t 2)), none⟩, ⟨some 6, .pu (.fa 0 (.t 5)), none⟩, ⟨some 7, .ld false 1 (.t 6), none⟩, ⟨some 8, .pu (.fa 0 (.t 3)), none⟩, ⟨some 9, .pu (.fa 0 (.t 8)), none⟩, ⟨some 10, .ld false 1 (.t 9), none⟩, ⟨some 11, .pu (.bin .lss (.t 7) (.t 10)), none⟩, ⟨some 12, .pu (.mov (.t 11)), none⟩] ++ o90_4
def c90 : IC := (.seq (.region [⟨some 2, .al (.box (.t 0)), none⟩, ⟨some 3, .al (.box (.t 1)), none⟩, ⟨some 4, .pu (.mov (.c (.b false))), none⟩]) (.seq (.region o90_5) .ret))
def ir90 : IFn := ⟨28, rs90, c90⟩
/-! (*cableway/wheel.Wheel).drop -/
def rs93 : List RV := []
def c93_2 : IC := (.region [⟨some 51, .pu (.bin .add (.t 26) (.c (.i .i64 1))), none⟩, ⟨some 26, .pu (.mov (.t 51)), none⟩])
def c93_3 : IC := (.seq (.region [⟨some 30, .pu (.bin .lss (.t 29) (.c (.i .i64 16))), none⟩]) (.seq (.cond (.t 30) .skip (.exit 2)) (.seq (.block 3 (.seq (.region [⟨some 31, .pu (.mov (.t 29)), none⟩, ⟨some 5, .pu (.mov (.t 31)), none⟩]) (.draw [⟨some 32, .pu (.mov (.t 0)), none⟩, ⟨some 33, .pu (.mov (.t 4)), none⟩, ⟨some 34, .pu (.mov (.t 5)), none⟩, ⟨some 35, .pu (.mov (.t 0)), none⟩, ⟨some 36, .pu (.mov (.t 0)), none⟩, ⟨some 37, .pu (.mov (.t 4)), none⟩, ⟨some 38, .pu (.mov (.t 5)), none⟩, ⟨some 39, .pu (.nilc (.t 36)), none⟩, ⟨some 40, .pu (.fa 1 (.t 39)), none⟩, ⟨some 41, .pu (.iaa 16 3 (.t 40) (.t 37)), none⟩, ⟨some 42, .pu (.iaa 1 16 (.t 41) (.t 38)), none⟩, ⟨some 43, .ld false 1 (.t 42), none⟩, ⟨some 44, .ld true 5 (.t 3), none⟩, ⟨some 45, .ef (.call 131 [(.t 35), (.t 43), (.t 44)]), none⟩, ⟨some 46, .pu (.nilc (.t 32)), none⟩, ⟨some 47, .pu (.fa 1 (.t 46)), none⟩, ⟨some 48, .pu (.iaa 16 3 (.t 47) (.t 33)), none⟩, ⟨some 49, .pu (.iaa 1 16 (.t 48) (.t 34)), none⟩, ⟨none, .ef (.store 1 (.t 49) (.t 45)), none⟩] []))) (.region [⟨some 50, .pu (.bin .add (.t 29) (.c (.i .i64 1))), none⟩, ⟨some 29, .pu (.mov (.t 50)), none⟩]))))
def c93_1 : IC := (.seq (.region [⟨some 27, .pu (.bin .lss (.t 26) (.c (.i .i64 3))), none⟩]) (.seq (.cond (.t 27) .skip (.exit 0)) (.seq (.block 1 (.seq (.region [⟨some 28, .pu (.mov (.t 26)), none⟩, ⟨some 4, .pu (.mov (.t 28)), none⟩]) (.seq (.region [⟨some 29, .pu (.mov (.c (.i .i64 0))), none⟩]) (.block 2 (.loop c93_3))))) c93_2)))
def c93 : IC := (.seq (.region [⟨some 3, .al (.box (.t 1)), none⟩]) (.seq (.draw [⟨some 6, .pu (.mov (.t 0)), none⟩, ⟨some 7, .pu (.mov (.t 0)), none⟩, ⟨some 8, .pu (.mov (.t 0)), none⟩, ⟨some 9, .pu (.nilc (.t 8)), none⟩, ⟨some 10, .pu (.fa 50 (.t 9)), none⟩, ⟨some 11, .ld false 1 (.t 10), none⟩, ⟨some 12, .ld true 5 (.t 3), none⟩, ⟨some 13, .ef (.call 131 [(.t 7), (.t 11), (.t 12)]), none⟩, ⟨some 14, .pu (.nilc (.t 6)), none⟩, ⟨some 15, .pu (.fa 50 (.t 14)), none⟩, ⟨none, .ef (.store 1 (.t 15) (.t 13)), none⟩] []) (.seq (.draw [⟨some 16, .pu (.mov (.t 0)), none⟩, ⟨some 17, .pu (.mov (.t 0)), none⟩, ⟨some 18, .pu (.mov (.t 0)), none⟩, ⟨some 19, .pu (.nilc (.t 18)), none⟩, ⟨some 20, .pu (.fa 49 (.t 19)), none⟩, ⟨some 21, .ld false 1 (.t 20), none⟩, ⟨some 22, .ld true 5 (.t 3), none⟩, ⟨some 23, .ef (.call 131 [(.t 17), (.t 21), (.t 22)]), none⟩, ⟨some 24, .pu (.nilc (.t 16)), none⟩, ⟨some 25, .pu (.fa 49 (.t 24)), none⟩, ⟨none, .ef (.store 1 (.t 25) (.t 23)), none⟩] []) (.seq (.region [⟨some 26, .pu (.mov (.c (.i .i64 0))), none⟩]) (.block 0 (.loop c93_1))))))
def ir93 : IFn := ⟨52, rs93, c93⟩
/-! (*cableway/wheel.Wheel).lay -/
def rs94 : List RV := []
def c94 : IC := (.seq (.region [⟨some 3, .al (.box (.t 1)), none⟩]) (.seq (.seq (.draw [⟨some 6, .pu (.fa 0 (.t 3)), none⟩, ⟨some 7, .pu (.fa 0 (.t 6)), none⟩, ⟨some 8, .ld false 1 (.t 7), none⟩, ⟨some 9, .pu (.mov (.t 0)), none⟩, ⟨some 10, .pu (.nilc (.t 9)), none⟩, ⟨some 11, .pu (.fa 0 (.t 10)), none⟩, ⟨some 12, .ld false 1 (.t 11), none⟩, ⟨some 13, .pu (.bin .leq (.t 8) (.t 12)), none⟩] []) (.cond (.t 13) (.seq (.draw [⟨some 14, .pu (.mov (.t 0)), none⟩, ⟨some 15, .pu (.mov (.t 0)), none⟩, ⟨some 16, .pu (.nilc (.t 15)), none⟩, ⟨some 17, .pu (.fa 50 (.t 16)), none⟩, ⟨some 18, .ld false 1 (.t 17), none⟩, ⟨some 19, .ld true 6 (.t 3), none⟩, ⟨some 20, .al (.sl 1 [(.i .i64 0), (.i .i64 0), (.i .i64 0), (.i .i64 0), (.i .i64 0), (.i .i64 0)] [(0, 6, (.t 19))]), none⟩, ⟨some 21, .ef (.app 6 48 (.t 18) (.t 20)), none⟩, ⟨some 22, .pu (.nilc (.t 14)), none⟩, ⟨some 23, .pu (.fa 50 (.t 22)), none⟩, ⟨none, .ef (.store 1 (.t 23) (.t 21)), none⟩] []) .ret) .skip)) (.seq (.draw [⟨some 24, .pu (.fa 0 (.t 3)), none⟩, ⟨some 25, .pu (.fa 0 (.t 24)), none⟩, ⟨some 26, .ld false 1 (.t 25), none⟩, ⟨some 27, .pu (.mov (.t 0)), none⟩, ⟨some 28, .pu (.nilc (.t 27)), none⟩, ⟨some 29, .pu (.fa 0 (.t 28)), none⟩, ⟨some 30, .ld false 1 (.t 29), none⟩, ⟨some 31, .pu (.bin .sub (.t 26) (.t 30)), none⟩, ⟨some 32, .ef (.call 132 [(.t 31)]), none⟩, ⟨some 4, .pu (.mov (.t 32)), none⟩] []) (.seq (.seq (.region [⟨some 33, .pu (.mov (.t 4)), none⟩, ⟨some 34, .pu (.bin .eql (.t 33) (.c (.i .i64 3))), none⟩]) (.cond (.t 34) (.seq (.draw [⟨some 35, .pu (.mov (.t 0)), none⟩, ⟨some 36, .pu (.mov (.t 0)), none⟩, ⟨some 37, .pu (.nilc (.t 36)), none⟩, ⟨some 38, .pu (.fa 49 (.t 37)), none⟩, ⟨some 39, .ld false 1 (.t 38), none⟩, ⟨some 40, .ld true 6 (.t 3), none⟩, ⟨some 41, .al (.sl 1 [(.i .i64 0), (.i .i64 0), (.i .i64 0), (.i .i64 0), (.i .i64 0), (.i .i64 0)] [(0, 6, (.t 40))]), none⟩, ⟨some 42, .ef (.app 6 48 (.t 39) (.t 41)), none⟩, ⟨some 43, .pu (.nilc (.t 35)), none⟩, ⟨some 44, .pu (.fa 49 (.t 43)), none⟩, ⟨none, .ef (.store 1 (.t 44) (.t 42)), none⟩] []) .ret) .skip)) (.seq (.draw [⟨some 45, .pu (.fa 0 (.t 3)), none⟩, ⟨some 46, .pu (.fa 0 (.t 45)), none⟩, ⟨some 47, .ld false 1 (.t 46), none⟩, ⟨some 48, .pu (.mov (.t 4)), none⟩, ⟨some 49, .ef (.call 129 [(.t 48)]), none⟩, ⟨some 50, .ef (.call 130 [(.t 47), (.t 49), (.c (.i .i64 16))]), none⟩, ⟨some 5, .pu (.mov (.t 50)), none⟩] [(2, 4)]) (.draw [⟨some 51, .pu (.mov (.t 0)), none⟩, ⟨some 52, .pu (.mov (.t 4)), none⟩, ⟨some 53, .pu (.mov (.t 5)), none⟩, ⟨some 54, .pu (.mov (.t 0)), none⟩, ⟨some 55, .pu (.mov (.t 4)), none⟩, ⟨some 56, .pu (.mov (.t 5)), none⟩, ⟨some 57, .pu (.nilc (.t 54)), none⟩, ⟨some 58, .pu (.fa 1 (.t 57)), none⟩, ⟨some 59, .pu (.iaa 16 3 (.t 58) (.t 55)), none⟩, ⟨some 60, .pu (.iaa 1 16 (.t 59) (.t 56)), none⟩, ⟨some 61, .ld false 1 (.t 60), none⟩, ⟨some 62, .ld true 6 (.t 3), none⟩, ⟨some 63, .al (.sl 1 [(.i .i64 0), (.i .i64 0), (.i .i64 0), (.i .i64 0), (.i .i64 0), (.i .i64 0)] [(0, 6, (.t 62))]), none⟩, ⟨some 64, .ef (.app 6 48 (.t 61) (.t 63)), none⟩, ⟨some 65, .pu (.nilc (.t 51)), none⟩, ⟨some 66, .pu (.fa 1 (.t 65)), none⟩, ⟨some 67, .pu (.iaa 16 3 (.t 66) (.t 52)), none⟩, ⟨some 68, .pu (.iaa 1 16 (.t 67) (.t 53)), none⟩, ⟨none, .ef (.store 1 (.t 68) (.t 64)), none⟩] []))))))
def ir94 : IFn := ⟨69, rs94, c94⟩
/-! (*cableway/wheel.Wheel).nearer -/
def rs127 : List RV := []
def c127_1 : IC := (.seq (.region [⟨some 15, .pu (.bin .lss (.t 14) (.t 13)), none⟩]) (.seq (.cond (.t 15) .skip (.exit 0)) (.seq (.block 1 (.seq (.region [⟨some 16, .pu (.ia 6 (.t 12) (.t 14)), none⟩, ⟨some 17, .ld true 6 (.t 16), none⟩, ⟨some 4, .al (.zero [(.i .i64 0), (.i .i64 0), (.i .i64 0), (.i .i64 0), (.i .i64 0), (.i .i64 0)]), none⟩, ⟨none, .ef (.store 6 (.t 4) (.t 17)), none⟩]) (.region [⟨some 18, .pu (.mov (.t 0)), none⟩, ⟨some 19, .ld true 6 (.t 4), none⟩, ⟨some 20, .ef (.call 94 [(.t 18), (.t 19)]), none⟩]))) (.region [⟨some 21, .pu (.bin .add (.t 14) (.c (.i .i64 1))), none⟩, ⟨some 14, .pu (.mov (.t 21)), none⟩]))))
def c127 : IC := (.seq (.region [⟨some 5, .pu (.mov (.t 0)), none⟩, ⟨some 6, .pu (.nilc (.t 5)), none⟩, ⟨some 7, .pu (.fa 49 (.t 6)), none⟩, ⟨some 8, .ld false 1 (.t 7), none⟩, ⟨some 2, .pu (.mov (.t 8)), none⟩]) (.seq (.region [⟨some 9, .pu (.mov (.t 0)), none⟩, ⟨some 10, .pu (.nilc (.t 9)), none⟩, ⟨some 11, .pu (.fa 49 (.t 10)), none⟩, ⟨none, .ef (.store 1 (.t 11) (.c .nsl)), none⟩]) (.seq (.region [⟨some 12, .pu (.mov (.t 2)), none⟩, ⟨some 13, .pu (.lens (.t 12)), none⟩, ⟨some 14, .pu (.mov (.c (.i .i64 0))), none⟩]) (.block 0 (.loop c127_1)))))
def ir127 : IFn := ⟨22, rs127, c127⟩
/-! (*cableway/wheel.Wheel).again -/
def rs128 : List RV := []
def c128_1 : IC := (.seq (.region [⟨some 27, .pu (.bin .lss (.t 26) (.t 25)), none⟩]) (.seq (.cond (.t 27) .skip (.exit 0)) (.seq (.block 1 (.seq (.region [⟨some 28, .pu (.ia 6 (.t 24) (.t 26)), none⟩, ⟨some 29, .ld true 6 (.t 28), none⟩, ⟨some 8, .al (.zero [(.i .i64 0), (.i .i64 0), (.i .i64 0), (.i .i64 0), (.i .i64 0), (.i .i64 0)]), none⟩, ⟨none, .ef (.store 6 (.t 8) (.t 29)), none⟩]) (.region [⟨some 30, .pu (.mov (.t 0)), none⟩, ⟨some 31, .ld true 6 (.t 8), none⟩, ⟨some 32, .ef (.call 94 [(.t 30), (.t 31)]), none⟩]))) (.region [⟨some 33, .pu (.bin .add (.t 26) (.c (.i .i64 1))), none⟩, ⟨some 26, .pu (.mov (.t 33)), none⟩]))))
def c128 : IC := (.seq (.region [⟨some 9, .pu (.mov (.t 0)), none⟩, ⟨some 10, .pu (.mov (.t 1)), none⟩, ⟨some 11, .pu (.mov (.t 2)), none⟩, ⟨some 12, .pu (.nilc (.t 9)), none⟩, ⟨some 13, .pu (.fa 1 (.t 12)), none⟩, ⟨some 14, .pu (.iaa 16 3 (.t 13) (.t 10)), none⟩, ⟨some 15, .pu (.iaa 1 16 (.t 14) (.t 11)), none⟩, ⟨some 16, .ld false 1 (.t 15), none⟩, ⟨some 6, .pu (.mov (.t 16)), none⟩]) (.seq (.region [⟨some 17, .pu (.mov (.t 0)), none⟩, ⟨some 18, .pu (.mov (.t 1)), none⟩, ⟨some 19, .pu (.mov (.t 2)), none⟩, ⟨some 20, .pu (.nilc (.t 17)), none⟩, ⟨some 21, .pu (.fa 1 (.t 20)), none⟩, ⟨some 22, .pu (.iaa 16 3 (.t 21) (.t 18)), none⟩, ⟨some 23, .pu (.iaa 1 16 (.t 22) (.t 19)), none⟩, ⟨none, .ef (.store 1 (.t 23) (.c .nsl)), none⟩]) (.seq (.region [⟨some 24, .pu (.mov (.t 6)), none⟩, ⟨some 25, .pu (.lens (.t 24)), none⟩, ⟨some 26, .pu (.mov (.c (.i .i64 0))), none⟩]) (.block 0 (.loop c128_1)))))
def ir128 : IFn := ⟨34, rs128, c128⟩
/-! cableway/wheel.width -/
def rs129 : List RV := [(.t 2)]
def c129 : IC := (.seq (.region [⟨some 2, .pu (.mov (.c (.i .i64 0))), none⟩]) (.seq (.region [⟨some 3, .pu (.mov (.t 0)), none⟩, ⟨some 4, .pu (.bin .mul (.c (.i .i64 4)) (.t 3)), none⟩, ⟨some 5, .pu (.bin .shl (.c (.i .i64 1)) (.t 4)), none⟩, ⟨some 2, .pu (.mov (.t 5)), none⟩]) .ret))
def ir129 : IFn := ⟨6, rs129, c129⟩
/-! cableway/ticks.Slot -/
def rs130 : List RV := [(.t 6)]
def c130_1 : IC := (.seq (.region [⟨some 13, .pu (.mov (.t 0)), none⟩, ⟨some 14, .ef (.call 86 [(.t 13)]), none⟩, ⟨some 15, .pu (.mov (.t 1)), none⟩, ⟨some 16, .pu (.bin .quo (.t 14) (.t 15)), none⟩, ⟨some 17, .pu (.mov (.t 2)), none⟩, ⟨some 18, .pu (.bin .rem (.t 16) (.t 17)), none⟩, ⟨some 6, .pu (.mov (.t 18)), none⟩]) .ret)
def c130_2 : IC := (.cond (.t 12) (.seq (.region [⟨some 6, .pu (.mov (.c (.i .i64 0))), none⟩]) .ret) .skip)
def o130_3 : List IOp := [⟨some 12, .pu (.pick (.t 9) (.c (.b true)) (.t 11)), none⟩] ++ []
def o130_4 : List IOp := [⟨some 10, .pu (.mov (.t 2)), some (9, false)⟩, ⟨some 11, .pu (.bin .lss (.t 10) (.c (.i .i64 1))), some (9, false)⟩] ++ o130_3
def o130_5 : List IOp := [⟨some 7, .pu (.mov (.t 1)), none⟩, ⟨some 8, .pu (.bin .lss (.t 7) (.c (.i .i64 1))), none⟩, ⟨some 9, .pu (.mov (.t 8)), none⟩] ++ o130_4
def c130 : IC := (.seq (.region [⟨some 6, .pu (.mov (.c (.i .i64 0))), none⟩]) (.seq (.seq (.region o130_5) c130_2) c130_1))
def ir130 : IFn := ⟨19, rs130, c130⟩
/-! (*cableway/wheel.Wheel).without -/
def rs131 : List RV := [(.t 6)]
def c131 : IC := (.seq (.region [⟨some 5, .al (.box (.t 2)), none⟩, ⟨some 6, .pu (.mov (.c .nsl)), none⟩]) (.seq (.region [⟨some 8, .pu (.mov (.t 1)), none⟩, ⟨some 9, .pu (.mkf 154 [(.t 5)]), none⟩, ⟨some 10, .ef (.call 153 [(.t 8), (.t 9)]), none⟩, ⟨some 7, .pu (.mov (.t 10)), none⟩]) (.seq (.region [⟨some 11, .pu (.mov (.t 0)), none⟩, ⟨some 12, .pu (.nilc (.t 11)), none⟩, ⟨some 13, .pu (.fa 51 (.t 12)), none⟩, ⟨some 14, .ld false 1 (.t 13), none⟩, ⟨some 15, .pu (.mov (.t 1)), none⟩, ⟨some 16, .pu (.lens (.t 15)), none⟩, ⟨some 17, .pu (.mov (.t 7)), none⟩, ⟨some 18, .pu (.lens (.t 17)), none⟩, ⟨some 19, .pu (.bin .sub (.t 16) (.t 18)), none⟩, ⟨some 20, .pu (.bin .sub (.t 14) (.t 19)), none⟩, ⟨some 21, .pu (.nilc (.t 11)), none⟩, ⟨some 22, .pu (.fa 51 (.t 21)), none⟩, ⟨none, .ef (.store 1 (.t 22) (.t 20)), none⟩]) (.seq (.region [⟨some 23, .pu (.mov (.t 7)), none⟩, ⟨some 6, .pu (.mov (.t 23)), none⟩]) .ret))))
def ir131 : IFn := ⟨24, rs131, c131⟩
/-! cableway/wheel.level -/
def rs132 : List RV := [(.t 2)]
def c132_1 : IC := (.seq (.region [⟨some 15, .pu (.mov (.t 3)), none⟩, ⟨some 2, .pu (.mov (.t 15)), none⟩]) .ret)
def c132_3 : IC := (.block 1 (.region [⟨some 13, .pu (.mov (.t 3)), none⟩, ⟨some 14, .pu (.bin .add (.t 13) (.c (.i .i64 1))), none⟩, ⟨some 3, .pu (.mov (.t 14)), none⟩]))
def c132_4 : IC := (.cond (.t 12) .skip (.exit 0))
def o132_5 : List IOp := [⟨some 12, .pu (.pick (.t 6) (.t 11) (.c (.b false))), none⟩] ++ []
def o132_6 : List IOp := [⟨some 7, .pu (.mov (.t 0)), some (6, true)⟩, ⟨some 8, .pu (.mov (.t 3)), some (6, true)⟩, ⟨some 9, .pu (.bin .add (.t 8) (.c (.i .i64 1))), some (6, true)⟩, ⟨some 10, .ef (.call 129 [(.t 9)]), some (6, true)⟩, ⟨some 11, .pu (.bin .geq (.t 7) (.t 10)), some (6, true)⟩] ++ o132_5
def o132_7 : List IOp := [⟨some 4, .pu (.mov (.t 3)), none⟩, ⟨some 5, .pu (.bin .lss (.t 4) (.c (.i .i64 3))), none⟩, ⟨some 6, .pu (.mov (.t 5)), none⟩] ++ o132_6
def c132_2 : IC := (.seq (.seq (.region o132_7) c132_4) c132_3)
def c132 : IC := (.seq (.region [⟨some 2, .pu (.mov (.c (.i .i64 0))), none⟩]) (.seq (.region [⟨some 3, .pu (.mov (.c (.i .i64 0))), none⟩]) (.seq (.block 0 (.loop c132_2)) c132_1)))
def ir132 : IFn := ⟨16, rs132, c132⟩
/-! slices.DeleteFunc[[]cableway/wheel.entry,cableway/wheel.entry] -/
def rs153 : List RV := [(.t 4)]
def c153_1 : IC := (.seq (.region [⟨some 36, .pu (.mov (.t 0)), none⟩, ⟨some 37, .pu (.mov (.t 5)), none⟩, ⟨some 38, .pu (.sls 6 (.t 36) (some (.t 37)) none none), none⟩, ⟨none, .ef (.clear [(.i .i64 0), (.i .i64 0), (.i .i64 0), (.i .i64 0), (.i .i64 0), (.i .i64 0)] (.t 38)), none⟩]) (.seq (.region [⟨some 39, .pu (.mov (.t 0)), none⟩, ⟨some 40, .pu (.mov (.t 5)), none⟩, ⟨some 41, .pu (.sls 6 (.t 39) none (some (.t 40)) none), none⟩, ⟨some 4, .pu (.mov (.t 41)), none⟩]) .ret))
def c153_3 : IC := (.region [⟨some 20, .pu (.mov (.t 6)), none⟩, ⟨some 21, .pu (.bin .add (.t 20) (.c (.i .i64 1))), none⟩, ⟨some 6, .pu (.mov (.t 21)), none⟩])
def c153_2 : IC := (.seq (.seq (.region [⟨some 16, .pu (.mov (.t 6)), none⟩, ⟨some 17, .pu (.mov (.t 0)), none⟩, ⟨some 18, .pu (.lens (.t 17)), none⟩, ⟨some 19, .pu (.bin .lss (.t 16) (.t 18)), none⟩]) (.cond (.t 19) .skip (.exit 0))) (.seq (.block 1 (.seq (.region [⟨some 22, .pu (.mov (.t 0)), none⟩, ⟨some 23, .pu (.mov (.t 6)), none⟩, ⟨some 24, .pu (.ia 6 (.t 22) (.t 23)), none⟩, ⟨some 25, .ld true 6 (.t 24), none⟩, ⟨some 7, .al (.zero [(.i .i64 0), (.i .i64 0), (.i .i64 0), (.i .i64 0), (.i .i64 0), (.i .i64 0)]), none⟩, ⟨none, .ef (.store 6 (.t 7) (.t 25)), none⟩]) (.seq (.region [⟨some 26, .pu (.mov (.t 1)), none⟩, ⟨some 27, .ld true 6 (.t 7), none⟩, ⟨some 28, .ef (.callv (.t 26) [(.t 27)]), none⟩, ⟨some 29, .pu (.un .not (.t 28)), none⟩]) (.cond (.t 29) (.seq (.region [⟨some 30, .pu (.mov (.t 0)), none⟩, ⟨some 31, .pu (.mov (.t 5)), none⟩, ⟨some 32, .ld true 6 (.t 7), none⟩, ⟨some 33, .pu (.ia 6 (.t 30) (.t 31)), none⟩, ⟨none, .ef (.store 6 (.t 33) (.t 32)), none⟩]) (.region [⟨some 34, .pu (.mov (.t 5)), none⟩, ⟨some 35, .pu (.bin .add (.t 34) (.c (.i .i64 1))), none⟩, ⟨some 5, .pu (.mov (.t 35)), none⟩])) .skip)))) c153_3))
def c153 : IC := (.seq (.region [⟨some 4, .pu (.mov (.c .nsl)), none⟩]) (.seq (.region [⟨some 8, .pu (.mov (.t 0)), none⟩, ⟨some 9, .pu (.mov (.t 1)), none⟩, ⟨some 10, .ef (.call 160 [(.t 8), (.t 9)]), none⟩, ⟨some 5, .pu (.mov (.t 10)), none⟩]) (.seq (.seq (.region [⟨some 11, .pu (.mov (.t 5)), none⟩, ⟨some 12, .pu (.bin .eql (.t 11) (.c (.i .i64 (-1)))), none⟩]) (.cond (.t 12) (.seq (.region [⟨some 13, .pu (.mov (.t 0)), none⟩, ⟨some 4, .pu (.mov (.t 13)), none⟩]) .ret) .skip)) (.seq (.seq (.region [⟨some 14, .pu (.mov (.t 5)), none⟩, ⟨some 15, .pu (.bin .add (.t 14) (.c (.i .i64 1))), none⟩, ⟨some 6, .pu (.mov (.t 15)), none⟩]) (.block 0 (.loop c153_2))) c153_1))))
def ir153 : IFn := ⟨42, rs153, c153⟩
/-! (*cableway/wheel.Wheel).without$1 -/
def rs154 : List RV := [(.t 3)]
def c154 : IC := (.seq (.region [⟨some 2, .al (.box (.t 0)), none⟩, ⟨some 3, .pu (.mov (.c (.b false))), none⟩]) (.seq (.region [⟨some 4, .pu (.fa 0 (.t 2)), none⟩, ⟨some 5, .ld true 5 (.t 4), none⟩, ⟨some 6, .ld true 5 (.t 1), none⟩, ⟨some 7, .ef (.call 155 [(.t 5), (.t 6)]), none⟩, ⟨some 3, .pu (.mov (.t 7)), none⟩]) .ret))
def ir154 : IFn := ⟨8, rs154, c154⟩
/-! cableway/wheel.alike -/
def rs155 : List RV := [(.t 4)]
def o155_1 : List IOp := [⟨some 23, .pu (.pick (.t 17) (.t 22) (.c (.b false))), none⟩, ⟨some 4, .pu (.mov (.t 23)), none⟩] ++ []
def o155_2 : List IOp := [⟨some 18, .pu (.fa 4 (.t 2)), some (17, true)⟩, ⟨some 19, .ld false 1 (.t 18), some (17, true)⟩, ⟨some 20, .pu (.fa 4 (.t 3)), some (17, true)⟩, ⟨some 21, .ld false 1 (.t 20), some (17, true)⟩, ⟨some 22, .pu (.bin .eql (.t 19) (.t 21)), some (17, true)⟩] ++ o155_1
def o155_3 : List IOp := [⟨some 16, .pu (.pick (.t 10) (.t 15) (.c (.b false))), none⟩, ⟨some 17, .pu (.mov (.t 16)), none⟩] ++ o155_2
def o155_4 : List IOp := [⟨some 11, .pu (.fa 2 (.t 2)), some (10, true)⟩, ⟨some 12, .ld false 1 (.t 11), some (10, true)⟩, ⟨some 13, .pu (.fa 2 (.t 3)), some (10, true)⟩, ⟨some 14, .ld false 1 (.t 13), some (10, true)⟩, ⟨some 15, .pu (.bin .eql (.t 12) (.t 14)), some (10, true)⟩] ++ o155_3
def o155_5 : List IOp := [⟨some 5, .pu (.fa 1 (.t 2)), none⟩, ⟨some 6, .ld false 1 (.t 5), none⟩, ⟨some 7, .pu (.fa 1 (.t 3)), none⟩, ⟨some 8, .ld false 1 (.t 7), none⟩, ⟨some 9, .pu (.bin .eql (.t 6) (.t 8)), none⟩, ⟨some 10, .pu (.mov (.t 9)), none⟩] ++ o155_4
def c155 : IC := (.seq (.region [⟨some 2, .al (.box (.t 0)), none⟩, ⟨some 3, .al (.box (.t 1)), none⟩, ⟨some 4, .pu (.mov (.c (.b false))), none⟩]) (.seq (.region o155_5) .ret))
def ir155 : IFn := ⟨24, rs155, c155⟩
/-! slices.IndexFunc[[]cableway/wheel.entry,cableway/wheel.entry] -/
def rs160 : List RV := [(.t 4)]
def c160_1 : IC := (.seq (.region [⟨some 4, .pu (.mov (.c (.i .i64 (-1)))), none⟩]) .ret)
def c160_2 : IC := (.seq (.region [⟨some 9, .pu (.bin .lss (.t 8) (.t 7)), none⟩]) (.seq (.cond (.t 9) .skip (.exit 0)) (.seq (.block 1 (.seq (.region [⟨some 10, .pu (.mov (.t 8)), none⟩, ⟨some 5, .pu (.mov (.t 10)), none⟩]) (.seq (.region [⟨some 11, .pu (.mov (.t 1)), none⟩, ⟨some 12, .pu (.mov (.t 0)), none⟩, ⟨some 13, .pu (.mov (.t 5)), none⟩, ⟨some 14, .pu (.ia 6 (.t 12) (.t 13)), none⟩, ⟨some 15, .ld true 6 (.t 14), none⟩, ⟨some 16, .ef (.callv (.t 11) [(.t 15)]), none⟩]) (.cond (.t 16) (.seq (.region [⟨some 17, .pu (.mov (.t 5)), none⟩, ⟨some 4, .pu (.mov (.t 17)), none⟩]) .ret) .skip)))) (.region [⟨some 18, .pu (.bin .add (.t 8) (.c (.i .i64 1))), none⟩, ⟨some 8, .pu (.mov (.t 18)), none⟩]))))
def c160 : IC := (.seq (.region [⟨some 4, .pu (.mov (.c (.i .i64 0))), none⟩]) (.seq (.seq (.region [⟨some 6, .pu (.mov (.t 0)), none⟩, ⟨some 7, .pu (.lens (.t 6)), none⟩, ⟨some 8, .pu (.mov (.c (.i .i64 0))), none⟩]) (.block 0 (.loop c160_2))) c160_1))
def ir160 : IFn := ⟨19, rs160, c160⟩
def tree : Tr IFn := (.n (.n (.n (.n (.n (.n (.n (.n .l (some ir127) .l) none .l) none .l) none .l) none (.n .l none (.n (.n .l (some ir87) .l) none .l))) none (.n (.n (.n (.n (.n .l (some ir131) .l) none .l) (some ir35) .l) none .l) none (.n .l none (.n (.n (.n .l (some ir155) .l) none .l) none .l)))) none (.n (.n (.n (.n (.n (.n .l (some ir129) .l) none .l) none .l) none .l) none (.n (.n .l (some ir41) .l) none (.n (.n (.n .l (some ir153) .l) none .l) none .l))) none (.n (.n (.n .l (some ir37) .l) none .l) none (.n (.n .l (some ir45) .l) none (.n (.n .l (some ir93) .l) none .l))))) none (.n (.n (.n (.n (.n (.n (.n .l (some ir128) .l) none .l) none (.n (.n .l (some ir160) .l) none .l)) none .l) (some ir8) (.n (.n .l (some ir40) .l) none (.n (.n .l (some ir88) .l) none .l))) none (.n (.n (.n (.n (.n .l (some ir132) .l) none .l) none .l) none .l) none (.n (.n .l (some ir44) .l) none .l))) none (.n (.n (.n (.n (.n (.n .l (some ir130) .l) none .l) (some ir34) .l) none .l) none (.n (.n .l (some ir42) .l) none (.n (.n (.n .l (some ir154) .l) (some ir90) .l) none .l))) none (.n (.n .l none (.n (.n .l (some ir86) .l) none .l)) none (.n .l none (.n (.n .l (some ir94) .l) none .l))))))
def IP (f : Nat) : Option IFn := tree.get f
theorem ok8 : ∃ fn, Try.prog.funcs[8]? = some fn ∧ trFn Try.prog 0 fn = some ir8 := ⟨_, Try.func8, by kernel_rfl⟩
theorem ok34 : ∃ fn, Try.prog.funcs[34]? = some fn ∧ trFn Try.prog 0 fn = some ir34 := ⟨_, Try.func34, by kernel_rfl⟩
theorem ok35 : ∃ fn, Try.prog.funcs[35]? = some fn ∧ trFn Try.prog 0 fn = some ir35 := ⟨_, Try.func35, by kernel_rfl⟩
theorem ok37 : ∃ fn, Try.prog.funcs[37]? = some fn ∧ trFn Try.prog 0 fn = some ir37 := ⟨_, Try.func37, by kernel_rfl⟩
theorem ok40 : ∃ fn, Try.prog.funcs[40]? = some fn ∧ trFn Try.prog 0 fn = some ir40 := ⟨_, Try.func40, by kernel_rfl⟩
theorem ok41 : ∃ fn, Try.prog.funcs[41]? = some fn ∧ trFn Try.prog 0 fn = some ir41 := ⟨_, Try.func41, by kernel_rfl⟩
theorem ok42 : ∃ fn, Try.prog.funcs[42]? = some fn ∧ trFn Try.prog 0 fn = some ir42 := ⟨_, Try.func42, by kernel_rfl⟩
theorem ok44 : ∃ fn, Try.prog.funcs[44]? = some fn ∧ trFn Try.prog 0 fn = some ir44 := ⟨_, Try.func44, by kernel_rfl⟩
theorem ok45 : ∃ fn, Try.prog.funcs[45]? = some fn ∧ trFn Try.prog 0 fn = some ir45 := ⟨_, Try.func45, by kernel_rfl⟩
theorem ok86 : ∃ fn, Try.prog.funcs[86]? = some fn ∧ trFn Try.prog 0 fn = some ir86 := ⟨_, Try.func86, by kernel_rfl⟩
theorem ok87 : ∃ fn, Try.prog.funcs[87]? = some fn ∧ trFn Try.prog 0 fn = some ir87 := ⟨_, Try.func87, by kernel_rfl⟩
theorem ok88 : ∃ fn, Try.prog.funcs[88]? = some fn ∧ trFn Try.prog 0 fn = some ir88 := ⟨_, Try.func88, by kernel_rfl⟩
theorem ok90 : ∃ fn, Try.prog.funcs[90]? = some fn ∧ trFn Try.prog 0 fn = some ir90 := ⟨_, Try.func90, by kernel_rfl⟩
theorem ok93 : ∃ fn, Try.prog.funcs[93]? = some fn ∧ trFn Try.prog 0 fn = some ir93 := ⟨_, Try.func93, by kernel_rfl⟩
theorem ok94 : ∃ fn, Try.prog.funcs[94]? = some fn ∧ trFn Try.prog 0 fn = some ir94 := ⟨_, Try.func94, by kernel_rfl⟩
theorem ok127 : ∃ fn, Try.prog.funcs[127]? = some fn ∧ trFn Try.prog 0 fn = some ir127 := ⟨_, Try.func127, by kernel_rfl⟩
theorem ok128 : ∃ fn, Try.prog.funcs[128]? = some fn ∧ trFn Try.prog 0 fn = some ir128 := ⟨_, Try.func128, by kernel_rfl⟩
theorem ok129 : ∃ fn, Try.prog.funcs[129]? = some fn ∧ trFn Try.prog 0 fn = some ir129 := ⟨_, Try.func129, by kernel_rfl⟩
theorem ok130 : ∃ fn, Try.prog.funcs[130]? = some fn ∧ trFn Try.prog 0 fn = some ir130 := ⟨_, Try.func130, by kernel_rfl⟩
theorem ok131 : ∃ fn, Try.prog.funcs[131]? = some fn ∧ trFn Try.prog 0 fn = some ir131 := ⟨_, Try.func131, by kernel_rfl⟩
theorem ok132 : ∃ fn, Try.prog.funcs[132]? = some fn ∧ trFn Try.prog 0 fn = some ir132 := ⟨_, Try.func132, by kernel_rfl⟩
theorem ok153 : ∃ fn, Try.prog.funcs[153]? = some fn ∧ trFn Try.prog 0 fn = some ir153 := ⟨_, Try.func153, by kernel_rfl⟩
theorem ok154 : ∃ fn, Try.prog.funcs[154]? = some fn ∧ trFn Try.prog 0 fn = some ir154 := ⟨_, Try.func154, by kernel_rfl⟩
theorem ok155 : ∃ fn, Try.prog.funcs[155]? = some fn ∧ trFn Try.prog 0 fn = some ir155 := ⟨_, Try.func155, by kernel_rfl⟩
theorem ok160 : ∃ fn, Try.prog.funcs[160]? = some fn ∧ trFn Try.prog 0 fn = some ir160 := ⟨_, Try.func160, by kernel_rfl⟩
theorem all : tree.All (fun f ir => ∃ fn, Try.prog.funcs[f]? = some fn ∧ trFn Try.prog 0 fn = some ir) 1 0 :=
  ⟨(fun _ h => by cases h), ⟨(fun _ h => by cases h), ⟨(fun _ h => by cases h), ⟨(fun _ h => by cases h), ⟨(fun _ h => by cases h), ⟨(fun _ h => by cases h), ⟨(fun _ h => by cases h), ⟨(fun _ h => by cases h; exact ok127), trivial, trivial⟩, trivial⟩, trivial⟩, trivial⟩, ⟨(fun _ h => by cases h), trivial, ⟨(fun _ h => by cases h), ⟨(fun _ h => by cases h; exact ok87), trivial, trivial⟩, trivial⟩⟩⟩, ⟨(fun _ h => by cases h), ⟨(fun _ h => by cases h), ⟨(fun _ h => by cases h; exact ok35), ⟨(fun _ h => by cases h), ⟨(fun _ h => by cases h; exact ok131), trivial, trivial⟩, trivial⟩, trivial⟩, trivial⟩, ⟨(fun _ h => by cases h), trivial, ⟨(fun _ h => by cases h), ⟨(fun _ h => by cases h), ⟨(fun _ h => by cases h; exact ok155), trivial, trivial⟩, trivial⟩, trivial⟩⟩⟩⟩, ⟨(fun _ h => by cases h), ⟨(fun _ h => by cases h), ⟨(fun _ h => by cases h), ⟨(fun _ h => by cases h), ⟨(fun _ h => by cases h), ⟨(fun _ h => by cases h; exact ok129), trivial, trivial⟩, trivial⟩, trivial⟩, trivial⟩, ⟨(fun _ h => by cases h), ⟨(fun _ h => by cases h; exact ok41), trivial, trivial⟩, ⟨(fun _ h => by cases h), ⟨(fun _ h => by cases h), ⟨(fun _ h => by cases h; exact ok153), trivial, trivial⟩, trivial⟩, trivial⟩⟩⟩, ⟨(fun _ h => by cases h), ⟨(fun _ h => by cases h), ⟨(fun _ h => by cases h; exact ok37), trivial, trivial⟩, trivial⟩, ⟨(fun _ h => by cases h), ⟨(fun _ h => by cases h; exact ok45), trivial, trivial⟩, ⟨(fun _ h => by cases h), ⟨(fun _ h => by cases h; exact ok93), trivial, trivial⟩, trivial⟩⟩⟩⟩⟩, ⟨(fun _ h => by cases h), ⟨(fun _ h => by cases h), ⟨(fun _ h => by cases h; exact ok8), ⟨(fun _ h => by cases h), ⟨(fun _ h => by cases h), ⟨(fun _ h => by cases h), ⟨(fun _ h => by cases h; exact ok128), trivial, trivial⟩, trivial⟩, ⟨(fun _ h => by cases h), ⟨(fun _ h => by cases h; exact ok160), trivial, trivial⟩, trivial⟩⟩, trivial⟩, ⟨(fun _ h => by cases h), ⟨(fun _ h => by cases h; exact ok40), trivial, trivial⟩, ⟨(fun _ h => by cases h), ⟨(fun _ h => by cases h; exact ok88), trivial, trivial⟩, trivial⟩⟩⟩, ⟨(fun _ h => by cases h), ⟨(fun _ h => by cases h), ⟨(fun _ h => by cases h), ⟨(fun _ h => by cases h), ⟨(fun _ h => by cases h; exact ok132), trivial, trivial⟩, trivial⟩, trivial⟩, trivial⟩, ⟨(fun _ h => by cases h), ⟨(fun _ h => by cases h; exact ok44), trivial, trivial⟩, trivial⟩⟩⟩, ⟨(fun _ h => by cases h), ⟨(fun _ h => by cases h), ⟨(fun _ h => by cases h), ⟨(fun _ h => by cases h; exact ok34), ⟨(fun _ h => by cases h), ⟨(fun _ h => by cases h; exact ok130), trivial, trivial⟩, trivial⟩, trivial⟩, trivial⟩, ⟨(fun _ h => by cases h), ⟨(fun _ h => by cases h; exact ok42), trivial, trivial⟩, ⟨(fun _ h => by cases h), ⟨(fun _ h => by cases h; exact ok90), ⟨(fun _ h => by cases h; exact ok154), trivial, trivial⟩, trivial⟩, trivial⟩⟩⟩, ⟨(fun _ h => by cases h), ⟨(fun _ h => by cases h), trivial, ⟨(fun _ h => by cases h), ⟨(fun _ h => by cases h; exact ok86), trivial, trivial⟩, trivial⟩⟩, ⟨(fun _ h => by cases h), trivial, ⟨(fun _ h => by cases h), ⟨(fun _ h => by cases h; exact ok94), trivial, trivial⟩, trivial⟩⟩⟩⟩⟩⟩
theorem bare : AllBare IP := allBare tree (by kernel_rfl)
theorem prog : ProgOK Try.prog 0 IP := progOK_of_tree (by kernel_rfl) all
theorem ip8 : IP 8 = some ir8 := rfl
def Q8 [q : Hid (V → H → Prop)] : X → E → H → Prop := Qr rs8 q.un
def Q8_1 [q : Hid (V → H → Prop)] : X → E → H → Prop := (@Q8 q)
def Q8_2 [q : Hid (V → H → Prop)] : X → E → H → Prop := (@Q8_1 q)
def S8_12 [q : Hid (V → H → Prop)] : E → H → Prop := ((Qx (den IP .ret (@Q8_2 q)) (@Q8_2 q)) X.normal)
def K8_12 (x100 x103 : V) (h : H) [q : Hid (V → H → Prop)] : Prop := @Bnd V (vPick x100 x103 (.b false)) ⟨fun v1 => @Hid.un (V → H → Prop) q v1 h⟩
def J8_12 [q : Hid (V → H → Prop)] : E → H → Prop := fun e h => @K8_12 (e 100) (e 103) h q
theorem p8_12 [q : Hid (V → H → Prop)] : denOps IP o8_3 (@S8_12 q) = (@J8_12 q) := by
  refine Eq.trans (app_eq rfl rfl) ?_
  kernel_rfl
def S8_13 [q : Hid (V → H → Prop)] : E → H → Prop := ((Qx (den IP .ret (@Q8_2 q)) (@Q8_2 q)) X.normal)
def K8_13 (x9 x95 x98 : V) (h : H) [q : Hid (V → H → Prop)] : Prop := @Bnd V (vPick x95 x98 (.b false)) ⟨fun v1 => @Grd v1 true ⟨@wF IP 41 [x9] h ⟨fun v2 h3 => @Bnd V (bin .eql v2 (.i .i64 0)) ⟨fun v4 => @K8_12 v1 v4 h3 q⟩⟩⟩ ⟨@K8_12 v1 undefV h q⟩⟩
def J8_13 [q : Hid (V → H → Prop)] : E → H → Prop := fun e h => @K8_13 (e 9) (e 95) (e 98) h q
theorem p8_13 [q : Hid (V → H → Prop)] : denOps IP o8_5 (@S8_13 q) = (@J8_13 q) := by
  refine Eq.trans (app_eq (grp_eq2 100 true rfl (@p8_12 q) rfl) rfl) ?_
  kernel_rfl
def S8_14 [q : Hid (V → H → Prop)] : E → H → Prop := ((Qx (den IP .ret (@Q8_2 q)) (@Q8_2 q)) X.normal)
def K8_14 (x9 x13 x89 x93 : V) (h : H) [q : Hid (V → H → Prop)] : Prop := @Bnd V (vPick x89 x93 (.b false)) ⟨fun v1 => @Grd v1 true ⟨@Bnd V (vFa 3 x13) ⟨fun v2 => @Bnd V (vLd1 h v2) ⟨fun v3 => @Bnd V (bin .eql v3 (.i .i64 3)) ⟨fun v4 => @K8_13 x9 v1 v4 h q⟩⟩⟩⟩ ⟨@K8_13 x9 v1 undefV h q⟩⟩
def J8_14 [q : Hid (V → H → Prop)] : E → H → Prop := fun e h => @K8_14 (e 9) (e 13) (e 89) (e 93) h q
theorem p8_14 [q : Hid (V → H → Prop)] : denOps IP o8_7 (@S8_14 q) = (@J8_14 q) := by
  refine Eq.trans (app_eq (grp_eq2 95 true rfl (@p8_13 q) rfl) rfl) ?_
  kernel_rfl
def S8_15 [q : Hid (V → H → Prop)] : E → H → Prop := ((Qx (den IP .ret (@Q8_2 q)) (@Q8_2 q)) X.normal)
def K8_15 (x9 x10 x13 x86 x87 : V) (h : H) [q : Hid (V → H → Prop)] : Prop := @Bnd V (vPick x86 x87 (.b false)) ⟨fun v1 => @Grd v1 true ⟨@Bnd V (vFa 0 x13) ⟨fun v2 => @Bnd V (vLd1 h v2) ⟨fun v3 => @Bnd V (bin .eql v3 x10) ⟨fun v4 => @K8_14 x9 x13 v1 v4 h q⟩⟩⟩⟩ ⟨@K8_14 x9 x13 v1 undefV h q⟩⟩
def J8_15 [q : Hid (V → H → Prop)] : E → H → Prop := fun e h => @K8_15 (e 9) (e 10) (e 13) (e 86) (e 87) h q
theorem p8_15 [q : Hid (V → H → Prop)] : denOps IP o8_9 (@S8_15 q) = (@J8_15 q) := by
  refine Eq.trans (app_eq (grp_eq2 89 true rfl (@p8_14 q) rfl) rfl) ?_
  kernel_rfl
def K8_2 (x9 x10 : V) (h : H) [q : Hid (V → H → Prop)] : Prop := @wF IP 35 [x9, x10] h ⟨fun v1 h2 => @wF IP 37 [x9] h2 ⟨fun v3 h4 => @Bnd V (vExt v3 0) ⟨fun v5 => @Bnd V (vExt v3 1) ⟨fun v6 => @Bnd (V × H) (some (.p (some (H.nx h4, 0)), H.new h4 ⟨false, [(.i .i64 0), (.i .i64 0), (.i .i64 0), (.i .i64 0), (.i .i64 0)]⟩)) ⟨fun r7 => @Bnd (V × H) (vStore r7.2 5 r7.1 v5) ⟨fun r8 => @wF IP 45 [] r8.2 ⟨fun v9 h10 => @Grd v9 true ⟨@K8_15 x9 x10 r7.1 v9 v6 h10 q⟩ ⟨@K8_15 x9 x10 r7.1 v9 undefV h10 q⟩⟩⟩⟩⟩⟩⟩⟩
def J8_2 [q : Hid (V → H → Prop)] : E → H → Prop := fun e h => @K8_2 (e 9) (e 10) h q
theorem p8_2 [q : Hid (V → H → Prop)] : den IP c8_2 (@Q8_2 q) = (@J8_2 q) := by
  refine Eq.trans (seq_eq (seq_eq (seq_eq rfl (region_eq (app_eq (grp_eq2 86 true rfl (@p8_15 q) rfl) rfl))) rfl) rfl) ?_
  kernel_rfl
def K8_1 (x8 x9 x10 : V) (h : H) [q : Hid (V → H → Prop)] : Prop := @Bnd V (bin .gtr x8 (.i .i64 0)) ⟨fun v1 => @Sel v1 ⟨@Bnd V (bin .sub x10 (.i .i64 1)) ⟨fun v2 => @wF IP 35 [x9, v2] h ⟨fun v3 h4 => @wF IP 42 [x9] h4 ⟨fun v5 h6 => @Bnd V (bin .neq v5 (.i .i64 0)) ⟨fun v7 => @Sel v7 ⟨@Hid.un (V → H → Prop) q (.b false) h6⟩ ⟨@K8_2 x9 x10 h6 q⟩⟩⟩⟩⟩⟩ ⟨@K8_2 x9 x10 h q⟩⟩
def J8_1 [q : Hid (V → H → Prop)] : E → H → Prop := fun e h => @K8_1 (e 8) (e 9) (e 10) h q
theorem p8_1 [q : Hid (V → H → Prop)] : den IP c8_1 (@Q8_1 q) = (@J8_1 q) := by
  refine Eq.trans (seq_eq (@p8_2 q) rfl) ?_
  kernel_rfl
def R8_16 [q : Hid (V → H → Prop)] : X → E → H → Prop := (Qb 0 (Qx (@J8_1 q) (@Q8 q)))
def Q8_16 [q : Hid (V → H → Prop)] [g8_16 : Hid (V → V → V → V → V → V → H → Prop)] : X → E → H → Prop := Qx (fun e h => g8_16.un (e 2) (e 7) (e 8) (e 9) (e 10) (e 11) h) (@R8_16 q)
def Q8_17 [q : Hid (V → H → Prop)] [g8_16 : Hid (V → V → V → V → V → V → H → Prop)] : X → E → H → Prop := (@Q8_16 q g8_16)
def Q8_18 [q : Hid (V → H → Prop)] [g8_16 : Hid (V → V → V → V → V → V → H → Prop)] : X → E → H → Prop := (@Q8_17 q g8_16)
def K8_18 (x2 x7 x8 x9 x10 x11 : V) (h : H) [q : Hid (V → H → Prop)] [g8_16 : Hid (V → V → V → V → V → V → H → Prop)] : Prop := @Bnd V (bin .add x11 (.i .i64 1)) ⟨fun v1 => @Hid.un (V → V → V → V → V → V → H → Prop) g8_16 x2 x7 x8 x9 x10 v1 h⟩
def J8_18 [q : Hid (V → H → Prop)] [g8_16 : Hid (V → V → V → V → V → V → H → Prop)] : E → H → Prop := fun e h => @K8_18 (e 2) (e 7) (e 8) (e 9) (e 10) (e 11) h q g8_16
theorem p8_18 [q : Hid (V → H → Prop)] [g8_16 : Hid (V → V → V → V → V → V → H → Prop)] : den IP c8_18 (@Q8_18 q g8_16) = (@J8_18 q g8_16) := by kernel_rfl
def Q8_19 [q : Hid (V → H → Prop)] [g8_16 : Hid (V → V → V → V → V → V → H → Prop)] : X → E → H → Prop := (Qb 1 (Qx (@J8_18 q g8_16) (@Q8_17 q g8_16)))
def K8_19 (x2 x7 x8 x9 x10 x11 x67 : V) (h : H) [q : Hid (V → H → Prop)] [g8_16 : Hid (V → V → V → V → V → V → H → Prop)] : Prop := @Sel x67 ⟨@Hid.un (V → H → Prop) q (.b false) h⟩ ⟨@K8_18 x2 x7 x8 x9 x10 x11 h q g8_16⟩
def J8_19 [q : Hid (V → H → Prop)] [g8_16 : Hid (V → V → V → V → V → V → H → Prop)] : E → H → Prop := fun e h => @K8_19 (e 2) (e 7) (e 8) (e 9) (e 10) (e 11) (e 67) h q g8_16
theorem p8_19 [q : Hid (V → H → Prop)] [g8_16 : Hid (V → V → V → V → V → V → H → Prop)] : den IP c8_19 (@Q8_19 q g8_16) = (@J8_19 q g8_16) := by kernel_rfl
def S8_23 [q : Hid (V → H → Prop)] [g8_16 : Hid (V → V → V → V → V → V → H → Prop)] : E → H → Prop := ((Qx (@J8_19 q g8_16) (Qb 1 (Qx (@J8_18 q g8_16) (@Q8_17 q g8_16)))) X.normal)
def K8_23 (x2 x7 x8 x9 x10 x11 x63 x66 : V) (h : H) [q : Hid (V → H → Prop)] [g8_16 : Hid (V → V → V → V → V → V → H → Prop)] : Prop := @Bnd V (vPick x63 x66 (.b false)) ⟨fun v1 => @K8_19 x2 x7 x8 x9 x10 x11 v1 h q g8_16⟩
def J8_23 [q : Hid (V → H → Prop)] [g8_16 : Hid (V → V → V → V → V → V → H → Prop)] : E → H → Prop := fun e h => @K8_23 (e 2) (e 7) (e 8) (e 9) (e 10) (e 11) (e 63) (e 66) h q g8_16
theorem p8_23 [q : Hid (V → H → Prop)] [g8_16 : Hid (V → V → V → V → V → V → H → Prop)] : denOps IP o8_20 (@S8_23 q g8_16) = (@J8_23 q g8_16) := by
  refine Eq.trans (app_eq rfl rfl) ?_
  kernel_rfl
def K8_17 (x2 x7 x8 x9 x10 x11 : V) (h : H) [q : Hid (V → H → Prop)] [g8_16 : Hid (V → V → V → V → V → V → H → Prop)] : Prop := @Bnd V (vIa 1 x2 x11) ⟨fun v1 => @Bnd V (vLd1 h v1) ⟨fun v2 => @Bnd V (bin .and v2 (.i .i64 4095)) ⟨fun v3 => @Bnd V (bin .add x7 v3) ⟨fun v4 => @Bnd V (bin .geq v4 x10) ⟨fun v5 => @Sel v5 ⟨@K8_1 x8 x9 x10 h q⟩ ⟨@Bnd V (bin .add x7 v3) ⟨fun v6 => @wF IP 35 [x9, v6] h ⟨fun v7 h8 => @wF IP 42 [x9] h8 ⟨fun v9 h10 => @Bnd V (bin .neq v9 (.i .i64 0)) ⟨fun v11 => @Grd v11 true ⟨@Bnd V (bin .gtr x10 v6) ⟨fun v12 => @K8_23 x2 v6 x8 x9 x10 x11 v11 v12 h10 q g8_16⟩⟩ ⟨@K8_23 x2 v6 x8 x9 x10 x11 v11 undefV h10 q g8_16⟩⟩⟩⟩⟩⟩⟩⟩⟩⟩⟩
def J8_17 [q : Hid (V → H → Prop)] [g8_16 : Hid (V → V → V → V → V → V → H → Prop)] : E → H → Prop := fun e h => @K8_17 (e 2) (e 7) (e 8) (e 9) (e 10) (e 11) h q g8_16
theorem p8_17 [q : Hid (V → H → Prop)] [g8_16 : Hid (V → V → V → V → V → V → H → Prop)] : den IP c8_17 (@Q8_17 q g8_16) = (@J8_17 q g8_16) := by
  refine Eq.trans (seq_eq (@p8_18 q g8_16) (block_eq (seq_eq (seq_eq (seq_eq (seq_eq (seq_eq (@p8_19 q g8_16) (region_eq (app_eq (grp_eq2 63 true rfl (@p8_23 q g8_16) rfl) rfl))) rfl) rfl) rfl) rfl))) ?_
  kernel_rfl
def Q8_24 [q : Hid (V → H → Prop)] [g8_16 : Hid (V → V → V → V → V → V → H → Prop)] : X → E → H → Prop := (Qx (@J8_17 q g8_16) (@Q8_16 q g8_16))
def K8_24 (x2 x7 x8 x9 x10 x11 x41 : V) (h : H) [q : Hid (V → H → Prop)] [g8_16 : Hid (V → V → V → V → V → V → H → Prop)] : Prop := @Sel x41 ⟨@K8_17 x2 x7 x8 x9 x10 x11 h q g8_16⟩ ⟨@K8_1 x8 x9 x10 h q⟩
def J8_24 [q : Hid (V → H → Prop)] [g8_16 : Hid (V → V → V → V → V → V → H → Prop)] : E → H → Prop := fun e h => @K8_24 (e 2) (e 7) (e 8) (e 9) (e 10) (e 11) (e 41) h q g8_16
theorem p8_24 [q : Hid (V → H → Prop)] [g8_16 : Hid (V → V → V → V → V → V → H → Prop)] : den IP c8_24 (@Q8_24 q g8_16) = (@J8_24 q g8_16) := by kernel_rfl
def S8_28 [q : Hid (V → H → Prop)] [g8_16 : Hid (V → V → V → V → V → V → H → Prop)] : E → H → Prop := ((Qx (@J8_24 q g8_16) (Qx (@J8_17 q g8_16) (@Q8_16 q g8_16))) X.normal)
def K8_28 (x2 x7 x8 x9 x10 x11 x38 x40 : V) (h : H) [q : Hid (V → H → Prop)] [g8_16 : Hid (V → V → V → V → V → V → H → Prop)] : Prop := @Bnd V (vPick x38 x40 (.b false)) ⟨fun v1 => @K8_24 x2 x7 x8 x9 x10 x11 v1 h q g8_16⟩
def J8_28 [q : Hid (V → H → Prop)] [g8_16 : Hid (V → V → V → V → V → V → H → Prop)] : E → H → Prop := fun e h => @K8_28 (e 2) (e 7) (e 8) (e 9) (e 10) (e 11) (e 38) (e 40) h q g8_16
theorem p8_28 [q : Hid (V → H → Prop)] [g8_16 : Hid (V → V → V → V → V → V → H → Prop)] : denOps IP o8_25 (@S8_28 q g8_16) = (@J8_28 q g8_16) := by
  refine Eq.trans (app_eq rfl rfl) ?_
  kernel_rfl
def L8_16 (x2 x7 x8 x9 x10 x11 : V) (h : H) [q : Hid (V → H → Prop)] [g8_16 : Hid (V → V → V → V → V → V → H → Prop)] : Prop := @Bnd V (vLens x2) ⟨fun v1 => @Bnd V (bin .lss x11 v1) ⟨fun v2 => @Grd v2 true ⟨@Bnd V (bin .lss x11 (.i .i64 30)) ⟨fun v3 => @K8_28 x2 x7 x8 x9 x10 x11 v2 v3 h q g8_16⟩⟩ ⟨@K8_28 x2 x7 x8 x9 x10 x11 v2 undefV h q g8_16⟩⟩⟩
theorem p8_16 [q : Hid (V → H → Prop)] [g8_16 : Hid (V → V → V → V → V → V → H → Prop)] : den IP c8_16 (@Q8_16 q g8_16) = fun e h => @L8_16 (e 2) (e 7) (e 8) (e 9) (e 10) (e 11) h q g8_16 := by
  refine Eq.trans (seq_eq (@p8_17 q g8_16) (seq_eq (@p8_24 q g8_16) (region_eq (app_eq (grp_eq2 38 true rfl (@p8_28 q g8_16) rfl) rfl)))) ?_
  kernel_rfl
def W8_16 (x2 x7 x8 x9 x10 x11 : V) (h : H) [q : Hid (V → H → Prop)] : Prop := wFix (fun (g : V × V × V × V × V × V × Unit → H → Prop) (x : V × V × V × V × V × V × Unit) h => @L8_16 x.1 x.2.1 x.2.2.1 x.2.2.2.1 x.2.2.2.2.1 x.2.2.2.2.2.1 h q ⟨fun y2 y7 y8 y9 y10 y11 h => g (y2, y7, y8, y9, y10, y11, ()) h⟩) (x2, x7, x8, x9, x10, x11, ()) h
theorem n8_16 [q : Hid (V → H → Prop)] : ∀ g : V × V × V × V × V × V × Unit → H → Prop, den IP c8_16 (Qx (fun e h => g ((fun e : E => ((e 2, e 7, e 8, e 9, e 10, e 11, ()) : V × V × V × V × V × V × Unit)) e) h) (@R8_16 q)) = fun e h => (fun (g : V × V × V × V × V × V × Unit → H → Prop) (x : V × V × V × V × V × V × Unit) h => @L8_16 x.1 x.2.1 x.2.2.1 x.2.2.2.1 x.2.2.2.2.1 x.2.2.2.2.2.1 h q ⟨fun y2 y7 y8 y9 y10 y11 h => g (y2, y7, y8, y9, y10, y11, ()) h⟩) g ((fun e : E => ((e 2, e 7, e 8, e 9, e 10, e 11, ()) : V × V × V × V × V × V × Unit)) e) h := fun g => @p8_16 q ⟨fun y2 y7 y8 y9 y10 y11 h => g (y2, y7, y8, y9, y10, y11, ()) h⟩
theorem w8_16 [q : Hid (V → H → Prop)] : den IP (.loop c8_16) (@R8_16 q) = fun e h => @W8_16 (e 2) (e 7) (e 8) (e 9) (e 10) (e 11) h q := loop_eq (fun e : E => ((e 2, e 7, e 8, e 9, e 10, e 11, ()) : V × V × V × V × V × V × Unit)) (fun (g : V × V × V × V × V × V × Unit → H → Prop) (x : V × V × V × V × V × V × Unit) h => @L8_16 x.1 x.2.1 x.2.2.1 x.2.2.2.1 x.2.2.2.2.1 x.2.2.2.2.2.1 h q ⟨fun y2 y7 y8 y9 y10 y11 h => g (y2, y7, y8, y9, y10, y11, ()) h⟩) (@n8_16 q)
theorem m8_16 [q : Hid (V → H → Prop)] : Mono (fun (g : V × V × V × V × V × V × Unit → H → Prop) (x : V × V × V × V × V × V × Unit) h => @L8_16 x.1 x.2.1 x.2.2.1 x.2.2.2.1 x.2.2.2.2.1 x.2.2.2.2.2.1 h q ⟨fun y2 y7 y8 y9 y10 y11 h => g (y2, y7, y8, y9, y10, y11, ()) h⟩) := mono_of (p := (fun e : E => ((e 2, e 7, e 8, e 9, e 10, e 11, ()) : V × V × V × V × V × V × Unit))) (fun x : V × V × V × V × V × V × Unit => upd (upd (upd (upd (upd (upd (fun _ => undefV) 11 (x.2.2.2.2.2.1)) 10 (x.2.2.2.2.1)) 9 (x.2.2.2.1)) 8 (x.2.2.1)) 7 (x.2.1)) 2 (x.1)) (fun _ => rfl) (@n8_16 q)
theorem W8_16_inv {q : Hid (V → H → Prop)} (I : Nat → V → V → V → V → V → V → H → Prop) (step : ∀ n x2 x7 x8 x9 x10 x11 h, I n x2 x7 x8 x9 x10 x11 h → @L8_16 x2 x7 x8 x9 x10 x11 h q ⟨fun y2 y7 y8 y9 y10 y11 h => ∃ m, m < n ∧ I m y2 y7 y8 y9 y10 y11 h⟩) (n : Nat) (x2 x7 x8 x9 x10 x11 : V) (h : H) (hi : I n x2 x7 x8 x9 x10 x11 h) : @W8_16 x2 x7 x8 x9 x10 x11 h q :=
  wFix_inv (@m8_16 q) (fun n x h => I n x.1 x.2.1 x.2.2.1 x.2.2.2.1 x.2.2.2.2.1 x.2.2.2.2.2.1 h) (fun n x h hi => step n x.1 x.2.1 x.2.2.1 x.2.2.2.1 x.2.2.2.2.1 x.2.2.2.2.2.1 h hi) n (x2, x7, x8, x9, x10, x11, ()) h hi
theorem W8_16_eq (x2 x7 x8 x9 x10 x11 : V) (h : H) {q : Hid (V → H → Prop)} : @W8_16 x2 x7 x8 x9 x10 x11 h q ↔ @L8_16 x2 x7 x8 x9 x10 x11 h q ⟨fun y2 y7 y8 y9 y10 y11 h => @W8_16 y2 y7 y8 y9 y10 y11 h q⟩ := wFix_unroll (@m8_16 q) (x2, x7, x8, x9, x10, x11, ()) h
def K8 (x0 x1 x2 : V) (h : H) [q : Hid (V → H → Prop)] : Prop := @Bnd V (bin .and x0 (.i .i64 68719476735)) ⟨fun v1 => @Bnd V (bin .and x1 (.i .i64 4294967295)) ⟨fun v2 => @Bnd V (bin .shr x1 (.i .u64 40)) ⟨fun v3 => @Bnd V (bin .and v3 (.i .i64 31)) ⟨fun v4 => @Bnd V (vCvi .u64 v4) ⟨fun v5 => @Bnd V (bin .shr v2 v5) ⟨fun v6 => @wF IP 34 [v1] h ⟨fun v7 h8 => @Bnd V (bin .add v1 v6) ⟨fun v9 => @Bnd V (vBld [(.i .i64 0), (.i .i64 0), (.i .i64 0), (.i .i64 0), (.i .i64 0)] [(0, 1, v9), (3, 1, (.i .i64 3))]) ⟨fun v10 => @wF IP 40 [v7, v10] h8 ⟨fun v11 h12 => @Bnd V (un .not v11) ⟨fun v13 => @Sel v13 ⟨@Hid.un (V → H → Prop) q (.b false) h12⟩ ⟨@W8_16 x2 v1 v6 v7 v9 (.i .i64 0) h12 q⟩⟩⟩⟩⟩⟩⟩⟩⟩⟩⟩⟩
theorem p8 [q : Hid (V → H → Prop)] : den IP c8 (@Q8 q) = fun e h => @K8 (e 0) (e 1) (e 2) h q := by
  refine Eq.trans (seq_eq (seq_eq (seq_eq (seq_eq (seq_eq (seq_eq (@p8_1 q) (seq_eq (block_eq (@w8_16 q)) rfl)) rfl) rfl) rfl) rfl) rfl) ?_
  kernel_rfl
theorem f8 (a0 a1 a2 : V) (h : H) (Q : V → H → Prop) : @wF IP 8 [a0, a1, a2] h ⟨Q⟩ ↔ @K8 a0 a1 a2 h ⟨Q⟩ := (Fnc_den (ip8) (by kernel_rfl) (by kernel_rfl) h Q).trans (iff_of_eq (congrFun (congrFun (@p8 ⟨Q⟩) _) h))
theorem ip34 : IP 34 = some ir34 := rfl
def Q34 [q : Hid (V → H → Prop)] : X → E → H → Prop := Qr rs34 q.un
def K34 (x0 : V) (h : H) [q : Hid (V → H → Prop)] : Prop := @wF IP 86 [x0] h ⟨fun v1 h2 => @Bnd V (vBld [(.i .i64 0), .nsl, .nsl, .nsl, .nsl, .nsl, .nsl, .nsl, .nsl, .nsl, .nsl, .nsl, .nsl, .nsl, .nsl, .nsl, .nsl, .nsl, .nsl, .nsl, .nsl, .nsl, .nsl, .nsl, .nsl, .nsl, .nsl, .nsl, .nsl, .nsl, .nsl, .nsl, .nsl, .nsl, .nsl, .nsl, .nsl, .nsl, .nsl, .nsl, .nsl, .nsl, .nsl, .nsl, .nsl, .nsl, .nsl, .nsl, .nsl, .nsl, .nsl, (.i .i64 0), (.i .i64 0)] [(0, 1, v1)]) ⟨fun v3 => @Bnd (V × H) (vBox v3 h2) ⟨fun r4 => @Hid.un (V → H → Prop) q r4.1 r4.2⟩⟩⟩
theorem p34 [q : Hid (V → H → Prop)] : den IP c34 (@Q34 q) = fun e h => @K34 (e 0) h q := by kernel_rfl
theorem f34 (a0 : V) (h : H) (Q : V → H → Prop) : @wF IP 34 [a0] h ⟨Q⟩ ↔ @K34 a0 h ⟨Q⟩ := (Fnc_den (ip34) (by kernel_rfl) (by kernel_rfl) h Q).trans (iff_of_eq (congrFun (congrFun (@p34 ⟨Q⟩) _) h))
theorem ip35 : IP 35 = some ir35 := rfl
def Q35 [q : Hid (V → H → Prop)] : X → E → H → Prop := Qr rs35 q.un
def Q35_1 [q : Hid (V → H → Prop)] : X → E → H → Prop := (@Q35 q)
def Q35_2 [q : Hid (V → H → Prop)] : X → E → H → Prop := (@Q35_1 q)
def R35_3 [q : Hid (V → H → Prop)] : X → E → H → Prop := (Qb 0 (@Q35_2 q))
def Q35_3 [q : Hid (V → H → Prop)] [g35_3 : Hid (V → V → H → Prop)] : X → E → H → Prop := Qx (fun e h => g35_3.un (e 0) (e 1) h) (@R35_3 q)
def L35_3 (x0 x1 : V) (h : H) [q : Hid (V → H → Prop)] [g35_3 : Hid (V → V → H → Prop)] : Prop := @Bnd V (vNilc x0) ⟨fun v1 => @Bnd V (vFa 0 v1) ⟨fun v2 => @Bnd V (vLd1 h v2) ⟨fun v3 => @Bnd V (bin .lss v3 x1) ⟨fun v4 => @Sel v4 ⟨@wF IP 88 [x0] h ⟨fun v5 h6 => @Hid.un (V → V → H → Prop) g35_3 x0 x1 h6⟩⟩ ⟨@Hid.un (V → H → Prop) q (.tup []) h⟩⟩⟩⟩⟩
theorem p35_3 [q : Hid (V → H → Prop)] [g35_3 : Hid (V → V → H → Prop)] : den IP c35_3 (@Q35_3 q g35_3) = fun e h => @L35_3 (e 0) (e 1) h q g35_3 := by kernel_rfl
def W35_3 (x0 x1 : V) (h : H) [q : Hid (V → H → Prop)] : Prop := wFix (fun (g : V × V × Unit → H → Prop) (x : V × V × Unit) h => @L35_3 x.1 x.2.1 h q ⟨fun y0 y1 h => g (y0, y1, ()) h⟩) (x0, x1, ()) h
theorem n35_3 [q : Hid (V → H → Prop)] : ∀ g : V × V × Unit → H → Prop, den IP c35_3 (Qx (fun e h => g ((fun e : E => ((e 0, e 1, ()) : V × V × Unit)) e) h) (@R35_3 q)) = fun e h => (fun (g : V × V × Unit → H → Prop) (x : V × V × Unit) h => @L35_3 x.1 x.2.1 h q ⟨fun y0 y1 h => g (y0, y1, ()) h⟩) g ((fun e : E => ((e 0, e 1, ()) : V × V × Unit)) e) h := fun g => @p35_3 q ⟨fun y0 y1 h => g (y0, y1, ()) h⟩
theorem w35_3 [q : Hid (V → H → Prop)] : den IP (.loop c35_3) (@R35_3 q) = fun e h => @W35_3 (e 0) (e 1) h q := loop_eq (fun e : E => ((e 0, e 1, ()) : V × V × Unit)) (fun (g : V × V × Unit → H → Prop) (x : V × V × Unit) h => @L35_3 x.1 x.2.1 h q ⟨fun y0 y1 h => g (y0, y1, ()) h⟩) (@n35_3 q)
theorem m35_3 [q : Hid (V → H → Prop)] : Mono (fun (g : V × V × Unit → H → Prop) (x : V × V × Unit) h => @L35_3 x.1 x.2.1 h q ⟨fun y0 y1 h => g (y0, y1, ()) h⟩) := mono_of (p := (fun e : E => ((e 0, e 1, ()) : V × V × Unit))) (fun x : V × V × Unit => upd (upd (fun _ => undefV) 1 (x.2.1)) 0 (x.1)) (fun _ => rfl) (@n35_3 q)
theorem W35_3_inv {q : Hid (V → H → Prop)} (I : Nat → V → V → H → Prop) (step : ∀ n x0 x1 h, I n x0 x1 h → @L35_3 x0 x1 h q ⟨fun y0 y1 h => ∃ m, m < n ∧ I m y0 y1 h⟩) (n : Nat) (x0 x1 : V) (h : H) (hi : I n x0 x1 h) : @W35_3 x0 x1 h q :=
  wFix_inv (@m35_3 q) (fun n x h => I n x.1 x.2.1 h) (fun n x h hi => step n x.1 x.2.1 h hi) n (x0, x1, ()) h hi
theorem W35_3_eq (x0 x1 : V) (h : H) {q : Hid (V → H → Prop)} : @W35_3 x0 x1 h q ↔ @L35_3 x0 x1 h q ⟨fun y0 y1 h => @W35_3 y0 y1 h q⟩ := wFix_unroll (@m35_3 q) (x0, x1, ()) h
def K35_2 (x0 x1 : V) (h : H) [q : Hid (V → H → Prop)] : Prop := @W35_3 x0 x1 h q
def J35_2 [q : Hid (V → H → Prop)] : E → H → Prop := fun e h => @K35_2 (e 0) (e 1) h q
theorem p35_2 [q : Hid (V → H → Prop)] : den IP c35_2 (@Q35_2 q) = (@J35_2 q) := by
  refine Eq.trans (block_eq (@w35_3 q)) ?_
  kernel_rfl
def K35_1 (x0 x1 : V) (h : H) [q : Hid (V → H → Prop)] : Prop := @Bnd V (vNilc x0) ⟨fun v1 => @Bnd V (vFa 0 v1) ⟨fun v2 => @Bnd V (vLd1 h v2) ⟨fun v3 => @Bnd V (bin .sub x1 v3) ⟨fun v4 => @Bnd V (bin .geq v4 (.i .i64 4096)) ⟨fun v5 => @Sel v5 ⟨@wF IP 87 [x0, x1] h ⟨fun v6 h7 => @K35_2 x0 x1 h7 q⟩⟩ ⟨@K35_2 x0 x1 h q⟩⟩⟩⟩⟩⟩
def J35_1 [q : Hid (V → H → Prop)] : E → H → Prop := fun e h => @K35_1 (e 0) (e 1) h q
theorem p35_1 [q : Hid (V → H → Prop)] : den IP c35_1 (@Q35_1 q) = (@J35_1 q) := by
  refine Eq.trans (seq_eq (@p35_2 q) rfl) ?_
  kernel_rfl
def Q35_4 [q : Hid (V → H → Prop)] : X → E → H → Prop := (Qx (@J35_1 q) (@Q35 q))
def K35_4 (x0 x1 x15 : V) (h : H) [q : Hid (V → H → Prop)] : Prop := @Sel x15 ⟨@Hid.un (V → H → Prop) q (.tup []) h⟩ ⟨@K35_1 x0 x1 h q⟩
def J35_4 [q : Hid (V → H → Prop)] : E → H → Prop := fun e h => @K35_4 (e 0) (e 1) (e 15) h q
theorem p35_4 [q : Hid (V → H → Prop)] : den IP c35_4 (@Q35_4 q) = (@J35_4 q) := by kernel_rfl
def S35_8 [q : Hid (V → H → Prop)] : E → H → Prop := ((Qx (@J35_4 q) (Qx (@J35_1 q) (@Q35 q))) X.normal)
def K35_8 (x0 x1 x8 x14 : V) (h : H) [q : Hid (V → H → Prop)] : Prop := @Bnd V (vPick x8 (.b true) x14) ⟨fun v1 => @K35_4 x0 x1 v1 h q⟩
def J35_8 [q : Hid (V → H → Prop)] : E → H → Prop := fun e h => @K35_8 (e 0) (e 1) (e 8) (e 14) h q
theorem p35_8 [q : Hid (V → H → Prop)] : denOps IP o35_5 (@S35_8 q) = (@J35_8 q) := by
  refine Eq.trans (app_eq rfl rfl) ?_
  kernel_rfl
def K35 (x0 x1 : V) (h : H) [q : Hid (V → H → Prop)] : Prop := @wF IP 86 [x1] h ⟨fun v1 h2 => @Bnd V (vEqz false .p x0 (.p none)) ⟨fun v3 => @Grd v3 false ⟨@Bnd V (vNilc x0) ⟨fun v4 => @Bnd V (vFa 0 v4) ⟨fun v5 => @Bnd V (vLd1 h2 v5) ⟨fun v6 => @Bnd V (bin .leq v1 v6) ⟨fun v7 => @K35_8 x0 v1 v3 v7 h2 q⟩⟩⟩⟩⟩ ⟨@K35_8 x0 v1 v3 undefV h2 q⟩⟩⟩
theorem p35 [q : Hid (V → H → Prop)] : den IP c35 (@Q35 q) = fun e h => @K35 (e 0) (e 1) h q := by
  refine Eq.trans (seq_eq (seq_eq (@p35_1 q) (seq_eq (@p35_4 q) (region_eq (app_eq (grp_eq2 8 false rfl (@p35_8 q) rfl) rfl)))) rfl) ?_
  kernel_rfl
theorem f35 (a0 a1 : V) (h : H) (Q : V → H → Prop) : @wF IP 35 [a0, a1] h ⟨Q⟩ ↔ @K35 a0 a1 h ⟨Q⟩ := (Fnc_den (ip35) (by kernel_rfl) (by kernel_rfl) h Q).trans (iff_of_eq (congrFun (congrFun (@p35 ⟨Q⟩) _) h))
theorem ip37 : IP 37 = some ir37 := rfl
def Q37 [q : Hid (V → H → Prop)] : X → E → H → Prop := Qr rs37 q.un
def Q37_1 [q : Hid (V → H → Prop)] : X → E → H → Prop := (@Q37 q)
def K37_1 (x0 x2 x4 : V) (h : H) [q : Hid (V → H → Prop)] : Prop := @Bnd V (vNilc x0) ⟨fun v1 => @Bnd V (vFa 50 v1) ⟨fun v2 => @Bnd V (vLd1 h v2) ⟨fun v3 => @Bnd V (vIa 6 v3 x4) ⟨fun v4 => @Bnd V (vLdA h 6 v4) ⟨fun v5 => @Bnd (V × H) (some (.p (some (H.nx h, 0)), H.new h ⟨false, [(.i .i64 0), (.i .i64 0), (.i .i64 0), (.i .i64 0), (.i .i64 0), (.i .i64 0)]⟩)) ⟨fun r6 => @Bnd (V × H) (vStore r6.2 6 r6.1 v5) ⟨fun r7 => @Bnd V (vNilc x0) ⟨fun v8 => @Bnd V (vFa 50 v8) ⟨fun v9 => @Bnd V (vLd1 r7.2 v9) ⟨fun v10 => @Bnd V (slcut 6 v10 none (some x4) (some x4)) ⟨fun v11 => @Bnd V (vNilc x0) ⟨fun v12 => @Bnd V (vFa 50 v12) ⟨fun v13 => @Bnd V (vLd1 r7.2 v13) ⟨fun v14 => @Bnd V (bin .add x4 (.i .i64 1)) ⟨fun v15 => @Bnd V (slcut 6 v14 (some v15) none none) ⟨fun v16 => @Bnd (V × H) (vApp 6 48 v11 v16 r7.2) ⟨fun r17 => @Bnd V (vNilc x0) ⟨fun v18 => @Bnd V (vFa 50 v18) ⟨fun v19 => @Bnd (V × H) (vStore r17.2 1 v19 r17.1) ⟨fun r20 => @Bnd V (vNilc x0) ⟨fun v21 => @Bnd V (vFa 51 v21) ⟨fun v22 => @Bnd V (vLd1 r20.2 v22) ⟨fun v23 => @Bnd V (bin .sub v23 (.i .i64 1)) ⟨fun v24 => @Bnd V (vNilc x0) ⟨fun v25 => @Bnd V (vFa 51 v25) ⟨fun v26 => @Bnd (V × H) (vStore r20.2 1 v26 v24) ⟨fun r27 => @Bnd V (vFa 0 r6.1) ⟨fun v28 => @Bnd V (vLdA r27.2 5 v28) ⟨fun v29 => @Bnd (V × H) (vStore r27.2 5 x2 v29) ⟨fun r30 => @Bnd V (vLdA r30.2 5 x2) ⟨fun v31 => @Hid.un (V → H → Prop) q (.tup [v31, (.b true)]) r30.2⟩⟩⟩⟩⟩⟩⟩⟩⟩⟩⟩⟩⟩⟩⟩⟩⟩⟩⟩⟩⟩⟩⟩⟩⟩⟩⟩⟩⟩⟩⟩
def J37_1 [q : Hid (V → H → Prop)] : E → H → Prop := fun e h => @K37_1 (e 0) (e 2) (e 4) h q
theorem p37_1 [q : Hid (V → H → Prop)] : den IP c37_1 (@Q37_1 q) = (@J37_1 q) := by kernel_rfl
def R37_2 [q : Hid (V → H → Prop)] : X → E → H → Prop := (Qb 0 (Qx (@J37_1 q) (@Q37 q)))
def Q37_2 [q : Hid (V → H → Prop)] [g37_2 : Hid (V → V → V → V → V → V → H → Prop)] : X → E → H → Prop := Qx (fun e h => g37_2.un (e 0) (e 2) (e 4) (e 15) (e 16) (e 17) h) (@R37_2 q)
def Q37_3 [q : Hid (V → H → Prop)] [g37_2 : Hid (V → V → V → V → V → V → H → Prop)] : X → E → H → Prop := (@Q37_2 q g37_2)
def K37_3 (x0 x2 x4 x15 x16 x17 : V) (h : H) [q : Hid (V → H → Prop)] [g37_2 : Hid (V → V → V → V → V → V → H → Prop)] : Prop := @Bnd V (bin .add x17 (.i .i64 1)) ⟨fun v1 => @Hid.un (V → V → V → V → V → V → H → Prop) g37_2 x0 x2 x4 x15 x16 v1 h⟩
def J37_3 [q : Hid (V → H → Prop)] [g37_2 : Hid (V → V → V → V → V → V → H → Prop)] : E → H → Prop := fun e h => @K37_3 (e 0) (e 2) (e 4) (e 15) (e 16) (e 17) h q g37_2
theorem p37_3 [q : Hid (V → H → Prop)] [g37_2 : Hid (V → V → V → V → V → V → H → Prop)] : den IP c37_3 (@Q37_3 q g37_2) = (@J37_3 q g37_2) := by kernel_rfl
def L37_2 (x0 x2 x4 x15 x16 x17 : V) (h : H) [q : Hid (V → H → Prop)] [g37_2 : Hid (V → V → V → V → V → V → H → Prop)] : Prop := @Bnd V (bin .lss x17 x16) ⟨fun v1 => @Sel v1 ⟨@Bnd V (vIa 6 x15 x17) ⟨fun v2 => @Bnd V (vLdA h 6 v2) ⟨fun v3 => @Bnd (V × H) (some (.p (some (H.nx h, 0)), H.new h ⟨false, [(.i .i64 0), (.i .i64 0), (.i .i64 0), (.i .i64 0), (.i .i64 0), (.i .i64 0)]⟩)) ⟨fun r4 => @Bnd (V × H) (vStore r4.2 6 r4.1 v3) ⟨fun r5 => @Bnd V (vLdA r5.2 6 r4.1) ⟨fun v6 => @Bnd V (vNilc x0) ⟨fun v7 => @Bnd V (vFa 50 v7) ⟨fun v8 => @Bnd V (vLd1 r5.2 v8) ⟨fun v9 => @Bnd V (vIa 6 v9 x4) ⟨fun v10 => @Bnd V (vLdA r5.2 6 v10) ⟨fun v11 => @wF IP 90 [v6, v11] r5.2 ⟨fun v12 h13 => @Sel v12 ⟨@K37_3 x0 x2 x17 x15 x16 x17 h13 q g37_2⟩ ⟨@K37_3 x0 x2 x4 x15 x16 x17 h13 q g37_2⟩⟩⟩⟩⟩⟩⟩⟩⟩⟩⟩⟩⟩ ⟨@K37_1 x0 x2 x4 h q⟩⟩
theorem p37_2 [q : Hid (V → H → Prop)] [g37_2 : Hid (V → V → V → V → V → V → H → Prop)] : den IP c37_2 (@Q37_2 q g37_2) = fun e h => @L37_2 (e 0) (e 2) (e 4) (e 15) (e 16) (e 17) h q g37_2 := by
  refine Eq.trans (seq_eq (seq_eq (seq_eq (@p37_3 q g37_2) rfl) rfl) rfl) ?_
  kernel_rfl
def W37_2 (x0 x2 x4 x15 x16 x17 : V) (h : H) [q : Hid (V → H → Prop)] : Prop := wFix (fun (g : V × V × V × V × V × V × Unit → H → Prop) (x : V × V × V × V × V × V × Unit) h => @L37_2 x.1 x.2.1 x.2.2.1 x.2.2.2.1 x.2.2.2.2.1 x.2.2.2.2.2.1 h q ⟨fun y0 y2 y4 y15 y16 y17 h => g (y0, y2, y4, y15, y16, y17, ()) h⟩) (x0, x2, x4, x15, x16, x17, ()) h
theorem n37_2 [q : Hid (V → H → Prop)] : ∀ g : V × V × V × V × V × V × Unit → H → Prop, den IP c37_2 (Qx (fun e h => g ((fun e : E => ((e 0, e 2, e 4, e 15, e 16, e 17, ()) : V × V × V × V × V × V × Unit)) e) h) (@R37_2 q)) = fun e h => (fun (g : V × V × V × V × V × V × Unit → H → Prop) (x : V × V × V × V × V × V × Unit) h => @L37_2 x.1 x.2.1 x.2.2.1 x.2.2.2.1 x.2.2.2.2.1 x.2.2.2.2.2.1 h q ⟨fun y0 y2 y4 y15 y16 y17 h => g (y0, y2, y4, y15, y16, y17, ()) h⟩) g ((fun e : E => ((e 0, e 2, e 4, e 15, e 16, e 17, ()) : V × V × V × V × V × V × Unit)) e) h := fun g => @p37_2 q ⟨fun y0 y2 y4 y15 y16 y17 h => g (y0, y2, y4, y15, y16, y17, ()) h⟩
theorem w37_2 [q : Hid (V → H → Prop)] : den IP (.loop c37_2) (@R37_2 q) = fun e h => @W37_2 (e 0) (e 2) (e 4) (e 15) (e 16) (e 17) h q := loop_eq (fun e : E => ((e 0, e 2, e 4, e 15, e 16, e 17, ()) : V × V × V × V × V × V × Unit)) (fun (g : V × V × V × V × V × V × Unit → H → Prop) (x : V × V × V × V × V × V × Unit) h => @L37_2 x.1 x.2.1 x.2.2.1 x.2.2.2.1 x.2.2.2.2.1 x.2.2.2.2.2.1 h q ⟨fun y0 y2 y4 y15 y16 y17 h => g (y0, y2, y4, y15, y16, y17, ()) h⟩) (@n37_2 q)
theorem m37_2 [q : Hid (V → H → Prop)] : Mono (fun (g : V × V × V × V × V × V × Unit → H → Prop) (x : V × V × V × V × V × V × Unit) h => @L37_2 x.1 x.2.1 x.2.2.1 x.2.2.2.1 x.2.2.2.2.1 x.2.2.2.2.2.1 h q ⟨fun y0 y2 y4 y15 y16 y17 h => g (y0, y2, y4, y15, y16, y17, ()) h⟩) := mono_of (p := (fun e : E => ((e 0, e 2, e 4, e 15, e 16, e 17, ()) : V × V × V × V × V × V × Unit))) (fun x : V × V × V × V × V × V × Unit => upd (upd (upd (upd (upd (upd (fun _ => undefV) 17 (x.2.2.2.2.2.1)) 16 (x.2.2.2.2.1)) 15 (x.2.2.2.1)) 4 (x.2.2.1)) 2 (x.2.1)) 0 (x.1)) (fun _ => rfl) (@n37_2 q)
theorem W37_2_inv {q : Hid (V → H → Prop)} (I : Nat → V → V → V → V → V → V → H → Prop) (step : ∀ n x0 x2 x4 x15 x16 x17 h, I n x0 x2 x4 x15 x16 x17 h → @L37_2 x0 x2 x4 x15 x16 x17 h q ⟨fun y0 y2 y4 y15 y16 y17 h => ∃ m, m < n ∧ I m y0 y2 y4 y15 y16 y17 h⟩) (n : Nat) (x0 x2 x4 x15 x16 x17 : V) (h : H) (hi : I n x0 x2 x4 x15 x16 x17 h) : @W37_2 x0 x2 x4 x15 x16 x17 h q :=
  wFix_inv (@m37_2 q) (fun n x h => I n x.1 x.2.1 x.2.2.1 x.2.2.2.1 x.2.2.2.2.1 x.2.2.2.2.2.1 h) (fun n x h hi => step n x.1 x.2.1 x.2.2.1 x.2.2.2.1 x.2.2.2.2.1 x.2.2.2.2.2.1 h hi) n (x0, x2, x4, x15, x16, x17, ()) h hi
theorem W37_2_eq (x0 x2 x4 x15 x16 x17 : V) (h : H) {q : Hid (V → H → Prop)} : @W37_2 x0 x2 x4 x15 x16 x17 h q ↔ @L37_2 x0 x2 x4 x15 x16 x17 h q ⟨fun y0 y2 y4 y15 y16 y17 h => @W37_2 y0 y2 y4 y15 y16 y17 h q⟩ := wFix_unroll (@m37_2 q) (x0, x2, x4, x15, x16, x17, ()) h
def K37 (x0 : V) (h : H) [q : Hid (V → H → Prop)] : Prop := @Bnd (V × H) (some (.p (some (H.nx h, 0)), H.new h ⟨false, [(.i .i64 0), (.i .i64 0), (.i .i64 0), (.i .i64 0), (.i .i64 0)]⟩)) ⟨fun r1 => @wF IP 42 [x0] r1.2 ⟨fun v2 h3 => @Bnd V (bin .eql v2 (.i .i64 0)) ⟨fun v4 => @Sel v4 ⟨@Bnd V (vBld [(.i .i64 0), (.i .i64 0), (.i .i64 0), (.i .i64 0), (.i .i64 0)] []) ⟨fun v5 => @Bnd (V × H) (vStore h3 5 r1.1 v5) ⟨fun r6 => @Bnd V (vLdA r6.2 5 r1.1) ⟨fun v7 => @Hid.un (V → H → Prop) q (.tup [v7, (.b false)]) r6.2⟩⟩⟩⟩ ⟨@Bnd V (vNilc x0) ⟨fun v8 => @Bnd V (vFa 50 v8) ⟨fun v9 => @Bnd V (vLd1 h3 v9) ⟨fun v10 => @Bnd V (vLens v10) ⟨fun v11 => @W37_2 x0 r1.1 (.i .i64 0) v10 v11 (.i .i64 0) h3 q⟩⟩⟩⟩⟩⟩⟩⟩
theorem p37 [q : Hid (V → H → Prop)] : den IP c37 (@Q37 q) = fun e h => @K37 (e 0) h q := by
  refine Eq.trans (seq_eq (seq_eq (seq_eq (seq_eq (@p37_1 q) (seq_eq (block_eq (@w37_2 q)) rfl)) rfl) rfl) rfl) ?_
  kernel_rfl
theorem f37 (a0 : V) (h : H) (Q : V → H → Prop) : @wF IP 37 [a0] h ⟨Q⟩ ↔ @K37 a0 h ⟨Q⟩ := (Fnc_den (ip37) (by kernel_rfl) (by kernel_rfl) h Q).trans (iff_of_eq (congrFun (congrFun (@p37 ⟨Q⟩) _) h))
theorem ip40 : IP 40 = some ir40 := rfl
def Q40 [q : Hid (V → H → Prop)] : X → E → H → Prop := Qr rs40 q.un
def Q40_1 [q : Hid (V → H → Prop)] : X → E → H → Prop := (@Q40 q)
def K40_1 (x0 x3 : V) (h : H) [q : Hid (V → H → Prop)] : Prop := @Bnd V (vLdA h 5 x3) ⟨fun v1 => @wF IP 93 [x0, v1] h ⟨fun v2 h3 => @Bnd V (vNilc x0) ⟨fun v4 => @Bnd V (vFa 51 v4) ⟨fun v5 => @Bnd V (vLd1 h3 v5) ⟨fun v6 => @Bnd V (bin .geq v6 (.i .i64 256)) ⟨fun v7 => @Sel v7 ⟨@Hid.un (V → H → Prop) q (.b false) h3⟩ ⟨@Bnd V (vNilc x0) ⟨fun v8 => @Bnd V (vFa 51 v8) ⟨fun v9 => @Bnd V (vLd1 h3 v9) ⟨fun v10 => @Bnd V (bin .add v10 (.i .i64 1)) ⟨fun v11 => @Bnd V (vNilc x0) ⟨fun v12 => @Bnd V (vFa 51 v12) ⟨fun v13 => @Bnd (V × H) (vStore h3 1 v13 v11) ⟨fun r14 => @Bnd V (vNilc x0) ⟨fun v15 => @Bnd V (vFa 52 v15) ⟨fun v16 => @Bnd V (vLd1 r14.2 v16) ⟨fun v17 => @Bnd V (bin .add v17 (.i .i64 1)) ⟨fun v18 => @Bnd V (vNilc x0) ⟨fun v19 => @Bnd V (vFa 52 v19) ⟨fun v20 => @Bnd (V × H) (vStore r14.2 1 v20 v18) ⟨fun r21 => @Bnd V (vLdA r21.2 5 x3) ⟨fun v22 => @Bnd V (vNilc x0) ⟨fun v23 => @Bnd V (vFa 52 v23) ⟨fun v24 => @Bnd V (vLd1 r21.2 v24) ⟨fun v25 => @Bnd V (vBld [(.i .i64 0), (.i .i64 0), (.i .i64 0), (.i .i64 0), (.i .i64 0), (.i .i64 0)] [(0, 5, v22), (5, 1, v25)]) ⟨fun v26 => @wF IP 94 [x0, v26] r21.2 ⟨fun v27 h28 => @Hid.un (V → H → Prop) q (.b true) h28⟩⟩⟩⟩⟩⟩⟩⟩⟩⟩⟩⟩⟩⟩⟩⟩⟩⟩⟩⟩⟩⟩⟩⟩⟩⟩⟩
def J40_1 [q : Hid (V → H → Prop)] : E → H → Prop := fun e h => @K40_1 (e 0) (e 3) h q
theorem p40_1 [q : Hid (V → H → Prop)] : den IP c40_1 (@Q40_1 q) = (@J40_1 q) := by kernel_rfl
def Q40_2 [q : Hid (V → H → Prop)] : X → E → H → Prop := (Qx (@J40_1 q) (@Q40 q))
def K40_2 (x0 x3 x15 : V) (h : H) [q : Hid (V → H → Prop)] : Prop := @Sel x15 ⟨@Hid.un (V → H → Prop) q (.b false) h⟩ ⟨@K40_1 x0 x3 h q⟩
def J40_2 [q : Hid (V → H → Prop)] : E → H → Prop := fun e h => @K40_2 (e 0) (e 3) (e 15) h q
theorem p40_2 [q : Hid (V → H → Prop)] : den IP c40_2 (@Q40_2 q) = (@J40_2 q) := by kernel_rfl
def S40_6 [q : Hid (V → H → Prop)] : E → H → Prop := ((Qx (@J40_2 q) (Qx (@J40_1 q) (@Q40 q))) X.normal)
def K40_6 (x0 x3 x11 x14 : V) (h : H) [q : Hid (V → H → Prop)] : Prop := @Bnd V (vPick x11 (.b true) x14) ⟨fun v1 => @K40_2 x0 x3 v1 h q⟩
def J40_6 [q : Hid (V → H → Prop)] : E → H → Prop := fun e h => @K40_6 (e 0) (e 3) (e 11) (e 14) h q
theorem p40_6 [q : Hid (V → H → Prop)] : denOps IP o40_3 (@S40_6 q) = (@J40_6 q) := by
  refine Eq.trans (app_eq rfl rfl) ?_
  kernel_rfl
def K40 (x0 x1 : V) (h : H) [q : Hid (V → H → Prop)] : Prop := @Bnd (V × H) (vBox x1 h) ⟨fun r1 => @Bnd V (vFa 0 r1.1) ⟨fun v2 => @Bnd V (vLd1 r1.2 v2) ⟨fun v3 => @wF IP 86 [v3] r1.2 ⟨fun v4 h5 => @Bnd V (vFa 0 r1.1) ⟨fun v6 => @Bnd (V × H) (vStore h5 1 v6 v4) ⟨fun r7 => @Bnd V (vEqz false .p x0 (.p none)) ⟨fun v8 => @Grd v8 false ⟨@Bnd V (vFa 0 r1.1) ⟨fun v9 => @Bnd V (vLd1 r7.2 v9) ⟨fun v10 => @Bnd V (bin .eql v10 (.i .i64 1099511627776)) ⟨fun v11 => @K40_6 x0 r1.1 v8 v11 r7.2 q⟩⟩⟩⟩ ⟨@K40_6 x0 r1.1 v8 undefV r7.2 q⟩⟩⟩⟩⟩⟩⟩⟩
theorem p40 [q : Hid (V → H → Prop)] : den IP c40 (@Q40 q) = fun e h => @K40 (e 0) (e 1) h q := by
  refine Eq.trans (seq_eq (seq_eq (seq_eq (@p40_1 q) (seq_eq (@p40_2 q) (region_eq (app_eq (grp_eq2 11 false rfl (@p40_6 q) rfl) rfl)))) rfl) rfl) ?_
  kernel_rfl
theorem f40 (a0 a1 : V) (h : H) (Q : V → H → Prop) : @wF IP 40 [a0, a1] h ⟨Q⟩ ↔ @K40 a0 a1 h ⟨Q⟩ := (Fnc_den (ip40) (by kernel_rfl) (by kernel_rfl) h Q).trans (iff_of_eq (congrFun (congrFun (@p40 ⟨Q⟩) _) h))
theorem ip41 : IP 41 = some ir41 := rfl
def Q41 [q : Hid (V → H → Prop)] : X → E → H → Prop := Qr rs41 q.un
def K41 (x0 : V) (h : H) [q : Hid (V → H → Prop)] : Prop := @Bnd V (vEqz false .p x0 (.p none)) ⟨fun v1 => @Sel v1 ⟨@Hid.un (V → H → Prop) q (.i .i64 0) h⟩ ⟨@Bnd V (vNilc x0) ⟨fun v2 => @Bnd V (vFa 51 v2) ⟨fun v3 => @Bnd V (vLd1 h v3) ⟨fun v4 => @Hid.un (V → H → Prop) q v4 h⟩⟩⟩⟩⟩
theorem p41 [q : Hid (V → H → Prop)] : den IP c41 (@Q41 q) = fun e h => @K41 (e 0) h q := by kernel_rfl
theorem f41 (a0 : V) (h : H) (Q : V → H → Prop) : @wF IP 41 [a0] h ⟨Q⟩ ↔ @K41 a0 h ⟨Q⟩ := (Fnc_den (ip41) (by kernel_rfl) (by kernel_rfl) h Q).trans (iff_of_eq (congrFun (congrFun (@p41 ⟨Q⟩) _) h))
theorem ip42 : IP 42 = some ir42 := rfl
def Q42 [q : Hid (V → H → Prop)] : X → E → H → Prop := Qr rs42 q.un
def K42 (x0 : V) (h : H) [q : Hid (V → H → Prop)] : Prop := @Bnd V (vEqz false .p x0 (.p none)) ⟨fun v1 => @Sel v1 ⟨@Hid.un (V → H → Prop) q (.i .i64 0) h⟩ ⟨@Bnd V (vNilc x0) ⟨fun v2 => @Bnd V (vFa 50 v2) ⟨fun v3 => @Bnd V (vLd1 h v3) ⟨fun v4 => @Bnd V (vLens v4) ⟨fun v5 => @Hid.un (V → H → Prop) q v5 h⟩⟩⟩⟩⟩⟩
theorem p42 [q : Hid (V → H → Prop)] : den IP c42 (@Q42 q) = fun e h => @K42 (e 0) h q := by kernel_rfl
theorem f42 (a0 : V) (h : H) (Q : V → H → Prop) : @wF IP 42 [a0] h ⟨Q⟩ ↔ @K42 a0 h ⟨Q⟩ := (Fnc_den (ip42) (by kernel_rfl) (by kernel_rfl) h Q).trans (iff_of_eq (congrFun (congrFun (@p42 ⟨Q⟩) _) h))
theorem ip44 : IP 44 = some ir44 := rfl
def Q44 [q : Hid (V → H → Prop)] : X → E → H → Prop := Qr rs44 q.un
def K44 (x0 : V) (h : H) [q : Hid (V → H → Prop)] : Prop := @Bnd V (vEqz false .p x0 (.p none)) ⟨fun v1 => @Sel v1 ⟨@Hid.un (V → H → Prop) q (.i .i64 0) h⟩ ⟨@Bnd V (vNilc x0) ⟨fun v2 => @Bnd V (vFa 0 v2) ⟨fun v3 => @Bnd V (vLd1 h v3) ⟨fun v4 => @Hid.un (V → H → Prop) q v4 h⟩⟩⟩⟩⟩
theorem p44 [q : Hid (V → H → Prop)] : den IP c44 (@Q44 q) = fun e h => @K44 (e 0) h q := by kernel_rfl
theorem f44 (a0 : V) (h : H) (Q : V → H → Prop) : @wF IP 44 [a0] h ⟨Q⟩ ↔ @K44 a0 h ⟨Q⟩ := (Fnc_den (ip44) (by kernel_rfl) (by kernel_rfl) h Q).trans (iff_of_eq (congrFun (congrFun (@p44 ⟨Q⟩) _) h))
theorem ip45 : IP 45 = some ir45 := rfl
def Q45 [q : Hid (V → H → Prop)] : X → E → H → Prop := Qr rs45 q.un
def S45_12 [q : Hid (V → H → Prop)] : E → H → Prop := ((Qx (den IP .ret (@Q45 q)) (@Q45 q)) X.normal)
def K45_12 (x39 x42 : V) (h : H) [q : Hid (V → H → Prop)] : Prop := @Bnd V (vPick x39 x42 (.b false)) ⟨fun v1 => @Hid.un (V → H → Prop) q v1 h⟩
def J45_12 [q : Hid (V → H → Prop)] : E → H → Prop := fun e h => @K45_12 (e 39) (e 42) h q
theorem p45_12 [q : Hid (V → H → Prop)] : denOps IP o45_1 (@S45_12 q) = (@J45_12 q) := by
  refine Eq.trans (app_eq rfl rfl) ?_
  kernel_rfl
def S45_13 [q : Hid (V → H → Prop)] : E → H → Prop := ((Qx (den IP .ret (@Q45 q)) (@Q45 q)) X.normal)
def K45_13 (x1 x34 x37 : V) (h : H) [q : Hid (V → H → Prop)] : Prop := @Bnd V (vPick x34 x37 (.b false)) ⟨fun v1 => @Grd v1 true ⟨@wF IP 44 [x1] h ⟨fun v2 h3 => @Bnd V (bin .eql v2 (.i .i64 5)) ⟨fun v4 => @K45_12 v1 v4 h3 q⟩⟩⟩ ⟨@K45_12 v1 undefV h q⟩⟩
def J45_13 [q : Hid (V → H → Prop)] : E → H → Prop := fun e h => @K45_13 (e 1) (e 34) (e 37) h q
theorem p45_13 [q : Hid (V → H → Prop)] : denOps IP o45_3 (@S45_13 q) = (@J45_13 q) := by
  refine Eq.trans (app_eq (grp_eq2 39 true rfl (@p45_12 q) rfl) rfl) ?_
  kernel_rfl
def S45_14 [q : Hid (V → H → Prop)] : E → H → Prop := ((Qx (den IP .ret (@Q45 q)) (@Q45 q)) X.normal)
def K45_14 (x1 x29 x32 : V) (h : H) [q : Hid (V → H → Prop)] : Prop := @Bnd V (vPick x29 x32 (.b false)) ⟨fun v1 => @Grd v1 true ⟨@wF IP 41 [x1] h ⟨fun v2 h3 => @Bnd V (bin .eql v2 (.i .i64 0)) ⟨fun v4 => @K45_13 x1 v1 v4 h3 q⟩⟩⟩ ⟨@K45_13 x1 v1 undefV h q⟩⟩
def J45_14 [q : Hid (V → H → Prop)] : E → H → Prop := fun e h => @K45_14 (e 1) (e 29) (e 32) h q
theorem p45_14 [q : Hid (V → H → Prop)] : denOps IP o45_5 (@S45_14 q) = (@J45_14 q) := by
  refine Eq.trans (app_eq (grp_eq2 34 true rfl (@p45_13 q) rfl) rfl) ?_
  kernel_rfl
def S45_15 [q : Hid (V → H → Prop)] : E → H → Prop := ((Qx (den IP .ret (@Q45 q)) (@Q45 q)) X.normal)
def K45_15 (x1 x4 x26 x27 : V) (h : H) [q : Hid (V → H → Prop)] : Prop := @Bnd V (vPick x26 x27 (.b false)) ⟨fun v1 => @Grd v1 true ⟨@Bnd V (vFa 3 x4) ⟨fun v2 => @Bnd V (vLd1 h v2) ⟨fun v3 => @Bnd V (bin .eql v3 (.i .i64 1)) ⟨fun v4 => @K45_14 x1 v1 v4 h q⟩⟩⟩⟩ ⟨@K45_14 x1 v1 undefV h q⟩⟩
def J45_15 [q : Hid (V → H → Prop)] : E → H → Prop := fun e h => @K45_15 (e 1) (e 4) (e 26) (e 27) h q
theorem p45_15 [q : Hid (V → H → Prop)] : denOps IP o45_7 (@S45_15 q) = (@J45_15 q) := by
  refine Eq.trans (app_eq (grp_eq2 29 true rfl (@p45_14 q) rfl) rfl) ?_
  kernel_rfl
def S45_16 [q : Hid (V → H → Prop)] : E → H → Prop := ((Qx (den IP .ret (@Q45 q)) (@Q45 q)) X.normal)
def K45_16 (x1 x4 x5 x22 x24 : V) (h : H) [q : Hid (V → H → Prop)] : Prop := @Bnd V (vPick x22 x24 (.b false)) ⟨fun v1 => @Grd v1 true ⟨@K45_15 x1 x4 v1 x5 h q⟩ ⟨@K45_15 x1 x4 v1 undefV h q⟩⟩
def J45_16 [q : Hid (V → H → Prop)] : E → H → Prop := fun e h => @K45_16 (e 1) (e 4) (e 5) (e 22) (e 24) h q
theorem p45_16 [q : Hid (V → H → Prop)] : denOps IP o45_9 (@S45_16 q) = (@J45_16 q) := by
  refine Eq.trans (app_eq (grp_eq2 26 true rfl (@p45_15 q) rfl) rfl) ?_
  kernel_rfl
def K45 (h : H) [q : Hid (V → H → Prop)] : Prop := @wF IP 34 [(.i .i64 0)] h ⟨fun v1 h2 => @Bnd V (vBld [(.i .i64 0), (.i .i64 0), (.i .i64 0), (.i .i64 0), (.i .i64 0)] [(0, 1, (.i .i64 5)), (3, 1, (.i .i64 1))]) ⟨fun v3 => @wF IP 40 [v1, v3] h2 ⟨fun v4 h5 => @wF IP 35 [v1, (.i .i64 4)] h5 ⟨fun v6 h7 => @wF IP 42 [v1] h7 ⟨fun v8 h9 => @wF IP 35 [v1, (.i .i64 5)] h9 ⟨fun v10 h11 => @wF IP 37 [v1] h11 ⟨fun v12 h13 => @Bnd V (vExt v12 0) ⟨fun v14 => @Bnd V (vExt v12 1) ⟨fun v15 => @Bnd (V × H) (some (.p (some (H.nx h13, 0)), H.new h13 ⟨false, [(.i .i64 0), (.i .i64 0), (.i .i64 0), (.i .i64 0), (.i .i64 0)]⟩)) ⟨fun r16 => @Bnd (V × H) (vStore r16.2 5 r16.1 v14) ⟨fun r17 => @Grd v4 true ⟨@Bnd V (bin .eql v8 (.i .i64 0)) ⟨fun v18 => @K45_16 v1 r16.1 v15 v4 v18 r17.2 q⟩⟩ ⟨@K45_16 v1 r16.1 v15 v4 undefV r17.2 q⟩⟩⟩⟩⟩⟩⟩⟩⟩⟩⟩⟩
theorem p45 [q : Hid (V → H → Prop)] : den IP c45 (@Q45 q) = fun e h => @K45 h q := by
  refine Eq.trans (seq_eq (seq_eq (seq_eq (seq_eq (seq_eq (seq_eq (seq_eq (seq_eq rfl (region_eq (app_eq (grp_eq2 22 true rfl (@p45_16 q) rfl) rfl))) rfl) rfl) rfl) rfl) rfl) rfl) rfl) ?_
  kernel_rfl
theorem f45 (h : H) (Q : V → H → Prop) : @wF IP 45 [] h ⟨Q⟩ ↔ @K45 h ⟨Q⟩ := (Fnc_den (ip45) (by kernel_rfl) (by kernel_rfl) h Q).trans (iff_of_eq (congrFun (congrFun (@p45 ⟨Q⟩) _) h))
theorem ip86 : IP 86 = some ir86 := rfl
def Q86 [q : Hid (V → H → Prop)] : X → E → H → Prop := Qr rs86 q.un
def K86 (x0 : V) (h : H) [q : Hid (V → H → Prop)] : Prop := @Bnd V (foldO max2 x0 [(.i .i64 0)]) ⟨fun v1 => @Bnd V (foldO min2 v1 [(.i .i64 1099511627776)]) ⟨fun v2 => @Hid.un (V → H → Prop) q v2 h⟩⟩
theorem p86 [q : Hid (V → H → Prop)] : den IP c86 (@Q86 q) = fun e h => @K86 (e 0) h q := by kernel_rfl
theorem f86 (a0 : V) (h : H) (Q : V → H → Prop) : @wF IP 86 [a0] h ⟨Q⟩ ↔ @K86 a0 h ⟨Q⟩ := (Fnc_den (ip86) (by kernel_rfl) (by kernel_rfl) h Q).trans (iff_of_eq (congrFun (congrFun (@p86 ⟨Q⟩) _) h))
theorem ip87 : IP 87 = some ir87 := rfl
def Q87 [q : Hid (V → H → Prop)] : X → E → H → Prop := Qr rs87 q.un
def R87_1 [q : Hid (V → H → Prop)] : X → E → H → Prop := (Qb 0 (@Q87 q))
def Q87_1 [q : Hid (V → H → Prop)] [g87_1 : Hid (V → V → H → Prop)] : X → E → H → Prop := Qx (fun e h => g87_1.un (e 0) (e 12) h) (@R87_1 q)
def Q87_2 [q : Hid (V → H → Prop)] [g87_1 : Hid (V → V → H → Prop)] : X → E → H → Prop := (@Q87_1 q g87_1)
def K87_2 (x0 x12 : V) (h : H) [q : Hid (V → H → Prop)] [g87_1 : Hid (V → V → H → Prop)] : Prop := @Bnd V (bin .add x12 (.i .i64 1)) ⟨fun v1 => @Hid.un (V → V → H → Prop) g87_1 x0 v1 h⟩
def J87_2 [q : Hid (V → H → Prop)] [g87_1 : Hid (V → V → H → Prop)] : E → H → Prop := fun e h => @K87_2 (e 0) (e 12) h q g87_1
theorem p87_2 [q : Hid (V → H → Prop)] [g87_1 : Hid (V → V → H → Prop)] : den IP c87_2 (@Q87_2 q g87_1) = (@J87_2 q g87_1) := by kernel_rfl
def R87_3 [q : Hid (V → H → Prop)] [g87_1 : Hid (V → V → H → Prop)] : X → E → H → Prop := (Qb 2 (Qb 1 (Qx (@J87_2 q g87_1) (@Q87_1 q g87_1))))
def Q87_3 [q : Hid (V → H → Prop)] [g87_1 : Hid (V → V → H → Prop)] [g87_3 : Hid (V → V → V → V → H → Prop)] : X → E → H → Prop := Qx (fun e h => g87_3.un (e 0) (e 4) (e 12) (e 15) h) (@R87_3 q g87_1)
def L87_3 (x0 x4 x12 x15 : V) (h : H) [q : Hid (V → H → Prop)] [g87_1 : Hid (V → V → H → Prop)] [g87_3 : Hid (V → V → V → V → H → Prop)] : Prop := @Bnd V (bin .lss x15 (.i .i64 16)) ⟨fun v1 => @Sel v1 ⟨@wF IP 128 [x0, x4, x15] h ⟨fun v2 h3 => @Bnd V (bin .add x15 (.i .i64 1)) ⟨fun v4 => @Hid.un (V → V → V → V → H → Prop) g87_3 x0 x4 x12 v4 h3⟩⟩⟩ ⟨@K87_2 x0 x12 h q g87_1⟩⟩
theorem p87_3 [q : Hid (V → H → Prop)] [g87_1 : Hid (V → V → H → Prop)] [g87_3 : Hid (V → V → V → V → H → Prop)] : den IP c87_3 (@Q87_3 q g87_1 g87_3) = fun e h => @L87_3 (e 0) (e 4) (e 12) (e 15) h q g87_1 g87_3 := by kernel_rfl
def W87_3 (x0 x4 x12 x15 : V) (h : H) [q : Hid (V → H → Prop)] [g87_1 : Hid (V → V → H → Prop)] : Prop := wFix (fun (g : V × V × V × V × Unit → H → Prop) (x : V × V × V × V × Unit) h => @L87_3 x.1 x.2.1 x.2.2.1 x.2.2.2.1 h q g87_1 ⟨fun y0 y4 y12 y15 h => g (y0, y4, y12, y15, ()) h⟩) (x0, x4, x12, x15, ()) h
theorem n87_3 [q : Hid (V → H → Prop)] [g87_1 : Hid (V → V → H → Prop)] : ∀ g : V × V × V × V × Unit → H → Prop, den IP c87_3 (Qx (fun e h => g ((fun e : E => ((e 0, e 4, e 12, e 15, ()) : V × V × V × V × Unit)) e) h) (@R87_3 q g87_1)) = fun e h => (fun (g : V × V × V × V × Unit → H → Prop) (x : V × V × V × V × Unit) h => @L87_3 x.1 x.2.1 x.2.2.1 x.2.2.2.1 h q g87_1 ⟨fun y0 y4 y12 y15 h => g (y0, y4, y12, y15, ()) h⟩) g ((fun e : E => ((e 0, e 4, e 12, e 15, ()) : V × V × V × V × Unit)) e) h := fun g => @p87_3 q g87_1 ⟨fun y0 y4 y12 y15 h => g (y0, y4, y12, y15, ()) h⟩
theorem w87_3 [q : Hid (V → H → Prop)] [g87_1 : Hid (V → V → H → Prop)] : den IP (.loop c87_3) (@R87_3 q g87_1) = fun e h => @W87_3 (e 0) (e 4) (e 12) (e 15) h q g87_1 := loop_eq (fun e : E => ((e 0, e 4, e 12, e 15, ()) : V × V × V × V × Unit)) (fun (g : V × V × V × V × Unit → H → Prop) (x : V × V × V × V × Unit) h => @L87_3 x.1 x.2.1 x.2.2.1 x.2.2.2.1 h q g87_1 ⟨fun y0 y4 y12 y15 h => g (y0, y4, y12, y15, ()) h⟩) (@n87_3 q g87_1)
theorem m87_3 [q : Hid (V → H → Prop)] [g87_1 : Hid (V → V → H → Prop)] : Mono (fun (g : V × V × V × V × Unit → H → Prop) (x : V × V × V × V × Unit) h => @L87_3 x.1 x.2.1 x.2.2.1 x.2.2.2.1 h q g87_1 ⟨fun y0 y4 y12 y15 h => g (y0, y4, y12, y15, ()) h⟩) := mono_of (p := (fun e : E => ((e 0, e 4, e 12, e 15, ()) : V × V × V × V × Unit))) (fun x : V × V × V × V × Unit => upd (upd (upd (upd (fun _ => undefV) 15 (x.2.2.2.1)) 12 (x.2.2.1)) 4 (x.2.1)) 0 (x.1)) (fun _ => rfl) (@n87_3 q g87_1)
theorem W87_3_inv {q : Hid (V → H → Prop)} {g87_1 : Hid (V → V → H → Prop)} (I : Nat → V → V → V → V → H → Prop) (step : ∀ n x0 x4 x12 x15 h, I n x0 x4 x12 x15 h → @L87_3 x0 x4 x12 x15 h q g87_1 ⟨fun y0 y4 y12 y15 h => ∃ m, m < n ∧ I m y0 y4 y12 y15 h⟩) (n : Nat) (x0 x4 x12 x15 : V) (h : H) (hi : I n x0 x4 x12 x15 h) : @W87_3 x0 x4 x12 x15 h q g87_1 :=
  wFix_inv (@m87_3 q g87_1) (fun n x h => I n x.1 x.2.1 x.2.2.1 x.2.2.2.1 h) (fun n x h hi => step n x.1 x.2.1 x.2.2.1 x.2.2.2.1 h hi) n (x0, x4, x12, x15, ()) h hi
theorem W87_3_eq (x0 x4 x12 x15 : V) (h : H) {q : Hid (V → H → Prop)} {g87_1 : Hid (V → V → H → Prop)} : @W87_3 x0 x4 x12 x15 h q g87_1 ↔ @L87_3 x0 x4 x12 x15 h q g87_1 ⟨fun y0 y4 y12 y15 h => @W87_3 y0 y4 y12 y15 h q g87_1⟩ := wFix_unroll (@m87_3 q g87_1) (x0, x4, x12, x15, ()) h
def L87_1 (x0 x12 : V) (h : H) [q : Hid (V → H → Prop)] [g87_1 : Hid (V → V → H → Prop)] : Prop := @Bnd V (bin .lss x12 (.i .i64 3)) ⟨fun v1 => @Sel v1 ⟨@W87_3 x0 x12 x12 (.i .i64 0) h q g87_1⟩ ⟨@Hid.un (V → H → Prop) q (.tup []) h⟩⟩
theorem p87_1 [q : Hid (V → H → Prop)] [g87_1 : Hid (V → V → H → Prop)] : den IP c87_1 (@Q87_1 q g87_1) = fun e h => @L87_1 (e 0) (e 12) h q g87_1 := by
  refine Eq.trans (seq_eq (seq_eq (seq_eq (@p87_2 q g87_1) (block_eq (seq_eq (seq_eq (block_eq (@w87_3 q g87_1)) rfl) rfl))) rfl) rfl) ?_
  kernel_rfl
def W87_1 (x0 x12 : V) (h : H) [q : Hid (V → H → Prop)] : Prop := wFix (fun (g : V × V × Unit → H → Prop) (x : V × V × Unit) h => @L87_1 x.1 x.2.1 h q ⟨fun y0 y12 h => g (y0, y12, ()) h⟩) (x0, x12, ()) h
theorem n87_1 [q : Hid (V → H → Prop)] : ∀ g : V × V × Unit → H → Prop, den IP c87_1 (Qx (fun e h => g ((fun e : E => ((e 0, e 12, ()) : V × V × Unit)) e) h) (@R87_1 q)) = fun e h => (fun (g : V × V × Unit → H → Prop) (x : V × V × Unit) h => @L87_1 x.1 x.2.1 h q ⟨fun y0 y12 h => g (y0, y12, ()) h⟩) g ((fun e : E => ((e 0, e 12, ()) : V × V × Unit)) e) h := fun g => @p87_1 q ⟨fun y0 y12 h => g (y0, y12, ()) h⟩
theorem w87_1 [q : Hid (V → H → Prop)] : den IP (.loop c87_1) (@R87_1 q) = fun e h => @W87_1 (e 0) (e 12) h q := loop_eq (fun e : E => ((e 0, e 12, ()) : V × V × Unit)) (fun (g : V × V × Unit → H → Prop) (x : V × V × Unit) h => @L87_1 x.1 x.2.1 h q ⟨fun y0 y12 h => g (y0, y12, ()) h⟩) (@n87_1 q)
theorem m87_1 [q : Hid (V → H → Prop)] : Mono (fun (g : V × V × Unit → H → Prop) (x : V × V × Unit) h => @L87_1 x.1 x.2.1 h q ⟨fun y0 y12 h => g (y0, y12, ()) h⟩) := mono_of (p := (fun e : E => ((e 0, e 12, ()) : V × V × Unit))) (fun x : V × V × Unit => upd (upd (fun _ => undefV) 12 (x.2.1)) 0 (x.1)) (fun _ => rfl) (@n87_1 q)
theorem W87_1_inv {q : Hid (V → H → Prop)} (I : Nat → V → V → H → Prop) (step : ∀ n x0 x12 h, I n x0 x12 h → @L87_1 x0 x12 h q ⟨fun y0 y12 h => ∃ m, m < n ∧ I m y0 y12 h⟩) (n : Nat) (x0 x12 : V) (h : H) (hi : I n x0 x12 h) : @W87_1 x0 x12 h q :=
  wFix_inv (@m87_1 q) (fun n x h => I n x.1 x.2.1 h) (fun n x h hi => step n x.1 x.2.1 h hi) n (x0, x12, ()) h hi
theorem W87_1_eq (x0 x12 : V) (h : H) {q : Hid (V → H → Prop)} : @W87_1 x0 x12 h q ↔ @L87_1 x0 x12 h q ⟨fun y0 y12 h => @W87_1 y0 y12 h q⟩ := wFix_unroll (@m87_1 q) (x0, x12, ()) h
def K87 (x0 x1 : V) (h : H) [q : Hid (V → H → Prop)] : Prop := @Bnd V (vNilc x0) ⟨fun v1 => @Bnd V (vFa 0 v1) ⟨fun v2 => @Bnd (V × H) (vStore h 1 v2 x1) ⟨fun r3 => @wF IP 127 [x0] r3.2 ⟨fun v4 h5 => @W87_1 x0 (.i .i64 0) h5 q⟩⟩⟩⟩
theorem p87 [q : Hid (V → H → Prop)] : den IP c87 (@Q87 q) = fun e h => @K87 (e 0) (e 1) h q := by
  refine Eq.trans (seq_eq (seq_eq (seq_eq (block_eq (@w87_1 q)) rfl) rfl) rfl) ?_
  kernel_rfl
theorem f87 (a0 a1 : V) (h : H) (Q : V → H → Prop) : @wF IP 87 [a0, a1] h ⟨Q⟩ ↔ @K87 a0 a1 h ⟨Q⟩ := (Fnc_den (ip87) (by kernel_rfl) (by kernel_rfl) h Q).trans (iff_of_eq (congrFun (congrFun (@p87 ⟨Q⟩) _) h))
theorem ip88 : IP 88 = some ir88 := rfl
def Q88 [q : Hid (V → H → Prop)] : X → E → H → Prop := Qr rs88 q.un
def Q88_1 [q : Hid (V → H → Prop)] : X → E → H → Prop := (@Q88 q)
def R88_2 [q : Hid (V → H → Prop)] : X → E → H → Prop := (Qb 0 (@Q88_1 q))
def Q88_2 [q : Hid (V → H → Prop)] [g88_2 : Hid (V → V → H → Prop)] : X → E → H → Prop := Qx (fun e h => g88_2.un (e 0) (e 2) h) (@R88_2 q)
def Q88_3 [q : Hid (V → H → Prop)] [g88_2 : Hid (V → V → H → Prop)] : X → E → H → Prop := (@Q88_2 q g88_2)
def K88_3 (x0 x2 : V) (h : H) [q : Hid (V → H → Prop)] [g88_2 : Hid (V → V → H → Prop)] : Prop := @Bnd V (bin .sub x2 (.i .i64 1)) ⟨fun v1 => @Hid.un (V → V → H → Prop) g88_2 x0 v1 h⟩
def J88_3 [q : Hid (V → H → Prop)] [g88_2 : Hid (V → V → H → Prop)] : E → H → Prop := fun e h => @K88_3 (e 0) (e 2) h q g88_2
theorem p88_3 [q : Hid (V → H → Prop)] [g88_2 : Hid (V → V → H → Prop)] : den IP c88_3 (@Q88_3 q g88_2) = (@J88_3 q g88_2) := by kernel_rfl
def L88_2 (x0 x2 : V) (h : H) [q : Hid (V → H → Prop)] [g88_2 : Hid (V → V → H → Prop)] : Prop := @Bnd V (bin .geq x2 (.i .i64 0)) ⟨fun v1 => @Sel v1 ⟨@Bnd V (vNilc x0) ⟨fun v2 => @Bnd V (vFa 0 v2) ⟨fun v3 => @Bnd V (vLd1 h v3) ⟨fun v4 => @wF IP 129 [x2] h ⟨fun v5 h6 => @Bnd V (bin .rem v4 v5) ⟨fun v7 => @Bnd V (bin .eql v7 (.i .i64 0)) ⟨fun v8 => @Chk (stdy false 1 v3 h h6) ⟨@Sel v8 ⟨@Bnd V (vNilc x0) ⟨fun v9 => @Bnd V (vFa 0 v9) ⟨fun v10 => @Bnd V (vLd1 h6 v10) ⟨fun v11 => @wF IP 129 [x2] h6 ⟨fun v12 h13 => @wF IP 130 [v11, v12, (.i .i64 16)] h13 ⟨fun v14 h15 => @wF IP 128 [x0, x2, v14] h15 ⟨fun v16 h17 => @Chk (stdy false 1 v10 h6 h13) ⟨@K88_3 x0 x2 h17 q g88_2⟩⟩⟩⟩⟩⟩⟩⟩ ⟨@K88_3 x0 x2 h6 q g88_2⟩⟩⟩⟩⟩⟩⟩⟩⟩ ⟨@Hid.un (V → H → Prop) q (.tup []) h⟩⟩
theorem p88_2 [q : Hid (V → H → Prop)] [g88_2 : Hid (V → V → H → Prop)] : den IP c88_2 (@Q88_2 q g88_2) = fun e h => @L88_2 (e 0) (e 2) h q g88_2 := by
  refine Eq.trans (seq_eq (seq_eq (@p88_3 q g88_2) rfl) rfl) ?_
  kernel_rfl
def W88_2 (x0 x2 : V) (h : H) [q : Hid (V → H → Prop)] : Prop := wFix (fun (g : V × V × Unit → H → Prop) (x : V × V × Unit) h => @L88_2 x.1 x.2.1 h q ⟨fun y0 y2 h => g (y0, y2, ()) h⟩) (x0, x2, ()) h
theorem n88_2 [q : Hid (V → H → Prop)] : ∀ g : V × V × Unit → H → Prop, den IP c88_2 (Qx (fun e h => g ((fun e : E => ((e 0, e 2, ()) : V × V × Unit)) e) h) (@R88_2 q)) = fun e h => (fun (g : V × V × Unit → H → Prop) (x : V × V × Unit) h => @L88_2 x.1 x.2.1 h q ⟨fun y0 y2 h => g (y0, y2, ()) h⟩) g ((fun e : E => ((e 0, e 2, ()) : V × V × Unit)) e) h := fun g => @p88_2 q ⟨fun y0 y2 h => g (y0, y2, ()) h⟩
theorem w88_2 [q : Hid (V → H → Prop)] : den IP (.loop c88_2) (@R88_2 q) = fun e h => @W88_2 (e 0) (e 2) h q := loop_eq (fun e : E => ((e 0, e 2, ()) : V × V × Unit)) (fun (g : V × V × Unit → H → Prop) (x : V × V × Unit) h => @L88_2 x.1 x.2.1 h q ⟨fun y0 y2 h => g (y0, y2, ()) h⟩) (@n88_2 q)
theorem m88_2 [q : Hid (V → H → Prop)] : Mono (fun (g : V × V × Unit → H → Prop) (x : V × V × Unit) h => @L88_2 x.1 x.2.1 h q ⟨fun y0 y2 h => g (y0, y2, ()) h⟩) := mono_of (p := (fun e : E => ((e 0, e 2, ()) : V × V × Unit))) (fun x : V × V × Unit => upd (upd (fun _ => undefV) 2 (x.2.1)) 0 (x.1)) (fun _ => rfl) (@n88_2 q)
theorem W88_2_inv {q : Hid (V → H → Prop)} (I : Nat → V → V → H → Prop) (step : ∀ n x0 x2 h, I n x0 x2 h → @L88_2 x0 x2 h q ⟨fun y0 y2 h => ∃ m, m < n ∧ I m y0 y2 h⟩) (n : Nat) (x0 x2 : V) (h : H) (hi : I n x0 x2 h) : @W88_2 x0 x2 h q :=
  wFix_inv (@m88_2 q) (fun n x h => I n x.1 x.2.1 h) (fun n x h hi => step n x.1 x.2.1 h hi) n (x0, x2, ()) h hi
theorem W88_2_eq (x0 x2 : V) (h : H) {q : Hid (V → H → Prop)} : @W88_2 x0 x2 h q ↔ @L88_2 x0 x2 h q ⟨fun y0 y2 h => @W88_2 y0 y2 h q⟩ := wFix_unroll (@m88_2 q) (x0, x2, ()) h
def K88_1 (x0 : V) (h : H) [q : Hid (V → H → Prop)] : Prop := @W88_2 x0 (.i .i64 2) h q
def J88_1 [q : Hid (V → H → Prop)] : E → H → Prop := fun e h => @K88_1 (e 0) h q
theorem p88_1 [q : Hid (V → H → Prop)] : den IP c88_1 (@Q88_1 q) = (@J88_1 q) := by
  refine Eq.trans (seq_eq (block_eq (@w88_2 q)) rfl) ?_
  kernel_rfl
def K88 (x0 : V) (h : H) [q : Hid (V → H → Prop)] : Prop := @Bnd V (vNilc x0) ⟨fun v1 => @Bnd V (vFa 0 v1) ⟨fun v2 => @Bnd V (vLd1 h v2) ⟨fun v3 => @Bnd V (bin .add v3 (.i .i64 1)) ⟨fun v4 => @Bnd V (vNilc x0) ⟨fun v5 => @Bnd V (vFa 0 v5) ⟨fun v6 => @Bnd (V × H) (vStore h 1 v6 v4) ⟨fun r7 => @Bnd V (vNilc x0) ⟨fun v8 => @Bnd V (vFa 49 v8) ⟨fun v9 => @Bnd V (vLd1 r7.2 v9) ⟨fun v10 => @Bnd V (vLens v10) ⟨fun v11 => @Bnd V (bin .gtr v11 (.i .i64 0)) ⟨fun v12 => @Sel v12 ⟨@wF IP 127 [x0] r7.2 ⟨fun v13 h14 => @K88_1 x0 h14 q⟩⟩ ⟨@K88_1 x0 r7.2 q⟩⟩⟩⟩⟩⟩⟩⟩⟩⟩⟩⟩⟩
theorem p88 [q : Hid (V → H → Prop)] : den IP c88 (@Q88 q) = fun e h => @K88 (e 0) h q := by
  refine Eq.trans (seq_eq (seq_eq (@p88_1 q) rfl) rfl) ?_
  kernel_rfl
theorem f88 (a0 : V) (h : H) (Q : V → H → Prop) : @wF IP 88 [a0] h ⟨Q⟩ ↔ @K88 a0 h ⟨Q⟩ := (Fnc_den (ip88) (by kernel_rfl) (by kernel_rfl) h Q).trans (iff_of_eq (congrFun (congrFun (@p88 ⟨Q⟩) _) h))
theorem ip90 : IP 90 = some ir90 := rfl
def Q90 [q : Hid (V → H → Prop)] : X → E → H → Prop := Qr rs90 q.un
def S90_6 [q : Hid (V → H → Prop)] : E → H → Prop := ((Qx (den IP .ret (@Q90 q)) (@Q90 q)) X.normal)
def K90_6 (x12 x26 : V) (h : H) [q : Hid (V → H → Prop)] : Prop := @Bnd V (vPick x12 (.b true) x26) ⟨fun v1 => @Hid.un (V → H → Prop) q v1 h⟩
def J90_6 [q : Hid (V → H → Prop)] : E → H → Prop := fun e h => @K90_6 (e 12) (e 26) h q
theorem p90_6 [q : Hid (V → H → Prop)] : denOps IP o90_1 (@S90_6 q) = (@J90_6 q) := by
  refine Eq.trans (app_eq rfl rfl) ?_
  kernel_rfl
def S90_7 [q : Hid (V → H → Prop)] : E → H → Prop := ((Qx (den IP .ret (@Q90 q)) (@Q90 q)) X.normal)
def K90_7 (x12 x20 x25 : V) (h : H) [q : Hid (V → H → Prop)] : Prop := @Grd x12 false ⟨@Bnd V (vPick x20 x25 (.b false)) ⟨fun v1 => @K90_6 x12 v1 h q⟩⟩ ⟨@K90_6 x12 undefV h q⟩
def J90_7 [q : Hid (V → H → Prop)] : E → H → Prop := fun e h => @K90_7 (e 12) (e 20) (e 25) h q
theorem p90_7 [q : Hid (V → H → Prop)] : denOps IP o90_2 (@S90_7 q) = (@J90_7 q) := by
  refine Eq.trans (grp_eq2 12 false rfl (@p90_6 q) rfl) ?_
  kernel_rfl
def S90_8 [q : Hid (V → H → Prop)] : E → H → Prop := ((Qx (den IP .ret (@Q90 q)) (@Q90 q)) X.normal)
def K90_8 (x2 x3 x12 x20 : V) (h : H) [q : Hid (V → H → Prop)] : Prop := @Grd x20 true ⟨@Bnd V (vFa 5 x2) ⟨fun v1 => @Bnd V (vLd1 h v1) ⟨fun v2 => @Bnd V (vFa 5 x3) ⟨fun v3 => @Bnd V (vLd1 h v3) ⟨fun v4 => @Bnd V (bin .lss v2 v4) ⟨fun v5 => @K90_7 x12 x20 v5 h q⟩⟩⟩⟩⟩⟩ ⟨@K90_7 x12 x20 undefV h q⟩
def J90_8 [q : Hid (V → H → Prop)] : E → H → Prop := fun e h => @K90_8 (e 2) (e 3) (e 12) (e 20) h q
theorem p90_8 [q : Hid (V → H → Prop)] : denOps IP o90_3 (@S90_8 q) = (@J90_8 q) := by
  refine Eq.trans (grp_eq2 20 true rfl (@p90_7 q) rfl) ?_
  kernel_rfl
def K90 (x0 x1 : V) (h : H) [q : Hid (V → H → Prop)] : Prop := @Bnd (V × H) (vBox x0 h) ⟨fun r1 => @Bnd (V × H) (vBox x1 r1.2) ⟨fun r2 => @Bnd V (vFa 0 r1.1) ⟨fun v3 => @Bnd V (vFa 0 v3) ⟨fun v4 => @Bnd V (vLd1 r2.2 v4) ⟨fun v5 => @Bnd V (vFa 0 r2.1) ⟨fun v6 => @Bnd V (vFa 0 v6) ⟨fun v7 => @Bnd V (vLd1 r2.2 v7) ⟨fun v8 => @Bnd V (bin .lss v5 v8) ⟨fun v9 => @Grd v9 false ⟨@Bnd V (vFa 0 r1.1) ⟨fun v10 => @Bnd V (vFa 0 v10) ⟨fun v11 => @Bnd V (vLd1 r2.2 v11) ⟨fun v12 => @Bnd V (vFa 0 r2.1) ⟨fun v13 => @Bnd V (vFa 0 v13) ⟨fun v14 => @Bnd V (vLd1 r2.2 v14) ⟨fun v15 => @Bnd V (bin .eql v12 v15) ⟨fun v16 => @K90_8 r1.1 r2.1 v9 v16 r2.2 q⟩⟩⟩⟩⟩⟩⟩⟩ ⟨@K90_8 r1.1 r2.1 v9 undefV r2.2 q⟩⟩⟩⟩⟩⟩⟩⟩⟩⟩
theorem p90 [q : Hid (V → H → Prop)] : den IP c90 (@Q90 q) = fun e h => @K90 (e 0) (e 1) h q := by
  refine Eq.trans (seq_eq (seq_eq rfl (region_eq (app_eq (grp_eq2 12 false rfl (@p90_8 q) rfl) rfl))) rfl) ?_
  kernel_rfl
theorem f90 (a0 a1 : V) (h : H) (Q : V → H → Prop) : @wF IP 90 [a0, a1] h ⟨Q⟩ ↔ @K90 a0 a1 h ⟨Q⟩ := (Fnc_den (ip90) (by kernel_rfl) (by kernel_rfl) h Q).trans (iff_of_eq (congrFun (congrFun (@p90 ⟨Q⟩) _) h))
theorem ip93 : IP 93 = some ir93 := rfl
def Q93 [q : Hid (V → H → Prop)] : X → E → H → Prop := Qr rs93 q.un
def R93_1 [q : Hid (V → H → Prop)] : X → E → H → Prop := (Qb 0 (@Q93 q))
def Q93_1 [q : Hid (V → H → Prop)] [g93_1 : Hid (V → V → V → H → Prop)] : X → E → H → Prop := Qx (fun e h => g93_1.un (e 0) (e 3) (e 26) h) (@R93_1 q)
def Q93_2 [q : Hid (V → H → Prop)] [g93_1 : Hid (V → V → V → H → Prop)] : X → E → H → Prop := (@Q93_1 q g93_1)
def K93_2 (x0 x3 x26 : V) (h : H) [q : Hid (V → H → Prop)] [g93_1 : Hid (V → V → V → H → Prop)] : Prop := @Bnd V (bin .add x26 (.i .i64 1)) ⟨fun v1 => @Hid.un (V → V → V → H → Prop) g93_1 x0 x3 v1 h⟩
def J93_2 [q : Hid (V → H → Prop)] [g93_1 : Hid (V → V → V → H → Prop)] : E → H → Prop := fun e h => @K93_2 (e 0) (e 3) (e 26) h q g93_1
theorem p93_2 [q : Hid (V → H → Prop)] [g93_1 : Hid (V → V → V → H → Prop)] : den IP c93_2 (@Q93_2 q g93_1) = (@J93_2 q g93_1) := by kernel_rfl
def R93_3 [q : Hid (V → H → Prop)] [g93_1 : Hid (V → V → V → H → Prop)] : X → E → H → Prop := (Qb 2 (Qb 1 (Qx (@J93_2 q g93_1) (@Q93_1 q g93_1))))
def Q93_3 [q : Hid (V → H → Prop)] [g93_1 : Hid (V → V → V → H → Prop)] [g93_3 : Hid (V → V → V → V → V → H → Prop)] : X → E → H → Prop := Qx (fun e h => g93_3.un (e 0) (e 3) (e 4) (e 26) (e 29) h) (@R93_3 q g93_1)
def L93_3 (x0 x3 x4 x26 x29 : V) (h : H) [q : Hid (V → H → Prop)] [g93_1 : Hid (V → V → V → H → Prop)] [g93_3 : Hid (V → V → V → V → V → H → Prop)] : Prop := @Bnd V (bin .lss x29 (.i .i64 16)) ⟨fun v1 => @Sel v1 ⟨@Bnd V (vNilc x0) ⟨fun v2 => @Bnd V (vFa 1 v2) ⟨fun v3 => @Bnd V (vIaa 16 3 v3 x4) ⟨fun v4 => @Bnd V (vIaa 1 16 v4 x29) ⟨fun v5 => @Bnd V (vLd1 h v5) ⟨fun v6 => @Bnd V (vLdA h 5 x3) ⟨fun v7 => @wF IP 131 [x0, v6, v7] h ⟨fun v8 h9 => @Bnd V (vNilc x0) ⟨fun v10 => @Bnd V (vFa 1 v10) ⟨fun v11 => @Bnd V (vIaa 16 3 v11 x4) ⟨fun v12 => @Bnd V (vIaa 1 16 v12 x29) ⟨fun v13 => @Bnd (V × H) (vStore h9 1 v13 v8) ⟨fun r14 => @Bnd V (bin .add x29 (.i .i64 1)) ⟨fun v15 => @Hid.un (V → V → V → V → V → H → Prop) g93_3 x0 x3 x4 x26 v15 r14.2⟩⟩⟩⟩⟩⟩⟩⟩⟩⟩⟩⟩⟩⟩ ⟨@K93_2 x0 x3 x26 h q g93_1⟩⟩
theorem p93_3 [q : Hid (V → H → Prop)] [g93_1 : Hid (V → V → V → H → Prop)] [g93_3 : Hid (V → V → V → V → V → H → Prop)] : den IP c93_3 (@Q93_3 q g93_1 g93_3) = fun e h => @L93_3 (e 0) (e 3) (e 4) (e 26) (e 29) h q g93_1 g93_3 := by kernel_rfl
def W93_3 (x0 x3 x4 x26 x29 : V) (h : H) [q : Hid (V → H → Prop)] [g93_1 : Hid (V → V → V → H → Prop)] : Prop := wFix (fun (g : V × V × V × V × V × Unit → H → Prop) (x : V × V × V × V × V × Unit) h => @L93_3 x.1 x.2.1 x.2.2.1 x.2.2.2.1 x.2.2.2.2.1 h q g93_1 ⟨fun y0 y3 y4 y26 y29 h => g (y0, y3, y4, y26, y29, ()) h⟩) (x0, x3, x4, x26, x29, ()) h
theorem n93_3 [q : Hid (V → H → Prop)] [g93_1 : Hid (V → V → V → H → Prop)] : ∀ g : V × V × V × V × V × Unit → H → Prop, den IP c93_3 (Qx (fun e h => g ((fun e : E => ((e 0, e 3, e 4, e 26, e 29, ()) : V × V × V × V × V × Unit)) e) h) (@R93_3 q g93_1)) = fun e h => (fun (g : V × V × V × V × V × Unit → H → Prop) (x : V × V × V × V × V × Unit) h => @L93_3 x.1 x.2.1 x.2.2.1 x.2.2.2.1 x.2.2.2.2.1 h q g93_1 ⟨fun y0 y3 y4 y26 y29 h => g (y0, y3, y4, y26, y29, ()) h⟩) g ((fun e : E => ((e 0, e 3, e 4, e 26, e 29, ()) : V × V × V × V × V × Unit)) e) h := fun g => @p93_3 q g93_1 ⟨fun y0 y3 y4 y26 y29 h => g (y0, y3, y4, y26, y29, ()) h⟩
theorem w93_3 [q : Hid (V → H → Prop)] [g93_1 : Hid (V → V → V → H → Prop)] : den IP (.loop c93_3) (@R93_3 q g93_1) = fun e h => @W93_3 (e 0) (e 3) (e 4) (e 26) (e 29) h q g93_1 := loop_eq (fun e : E => ((e 0, e 3, e 4, e 26, e 29, ()) : V × V × V × V × V × Unit)) (fun (g : V × V × V × V × V × Unit → H → Prop) (x : V × V × V × V × V × Unit) h => @L93_3 x.1 x.2.1 x.2.2.1 x.2.2.2.1 x.2.2.2.2.1 h q g93_1 ⟨fun y0 y3 y4 y26 y29 h => g (y0, y3, y4, y26, y29, ()) h⟩) (@n93_3 q g93_1)
theorem m93_3 [q : Hid (V → H → Prop)] [g93_1 : Hid (V → V → V → H → Prop)] : Mono (fun (g : V × V × V × V × V × Unit → H → Prop) (x : V × V × V × V × V × Unit) h => @L93_3 x.1 x.2.1 x.2.2.1 x.2.2.2.1 x.2.2.2.2.1 h q g93_1 ⟨fun y0 y3 y4 y26 y29 h => g (y0, y3, y4, y26, y29, ()) h⟩) := mono_of (p := (fun e : E => ((e 0, e 3, e 4, e 26, e 29, ()) : V × V × V × V × V × Unit))) (fun x : V × V × V × V × V × Unit => upd (upd (upd (upd (upd (fun _ => undefV) 29 (x.2.2.2.2.1)) 26 (x.2.2.2.1)) 4 (x.2.2.1)) 3 (x.2.1)) 0 (x.1)) (fun _ => rfl) (@n93_3 q g93_1)
theorem W93_3_inv {q : Hid (V → H → Prop)} {g93_1 : Hid (V → V → V → H → Prop)} (I : Nat → V → V → V → V → V → H → Prop) (step : ∀ n x0 x3 x4 x26 x29 h, I n x0 x3 x4 x26 x29 h → @L93_3 x0 x3 x4 x26 x29 h q g93_1 ⟨fun y0 y3 y4 y26 y29 h => ∃ m, m < n ∧ I m y0 y3 y4 y26 y29 h⟩) (n : Nat) (x0 x3 x4 x26 x29 : V) (h : H) (hi : I n x0 x3 x4 x26 x29 h) : @W93_3 x0 x3 x4 x26 x29 h q g93_1 :=
  wFix_inv (@m93_3 q g93_1) (fun n x h => I n x.1 x.2.1 x.2.2.1 x.2.2.2.1 x.2.2.2.2.1 h) (fun n x h hi => step n x.1 x.2.1 x.2.2.1 x.2.2.2.1 x.2.2.2.2.1 h hi) n (x0, x3, x4, x26, x29, ()) h hi
theorem W93_3_eq (x0 x3 x4 x26 x29 : V) (h : H) {q : Hid (V → H → Prop)} {g93_1 : Hid (V → V → V → H → Prop)} : @W93_3 x0 x3 x4 x26 x29 h q g93_1 ↔ @L93_3 x0 x3 x4 x26 x29 h q g93_1 ⟨fun y0 y3 y4 y26 y29 h => @W93_3 y0 y3 y4 y26 y29 h q g93_1⟩ := wFix_unroll (@m93_3 q g93_1) (x0, x3, x4, x26, x29, ()) h
def L93_1 (x0 x3 x26 : V) (h : H) [q : Hid (V → H → Prop)] [g93_1 : Hid (V → V → V → H → Prop)] : Prop := @Bnd V (bin .lss x26 (.i .i64 3)) ⟨fun v1 => @Sel v1 ⟨@W93_3 x0 x3 x26 x26 (.i .i64 0) h q g93_1⟩ ⟨@Hid.un (V → H → Prop) q (.tup []) h⟩⟩
theorem p93_1 [q : Hid (V → H → Prop)] [g93_1 : Hid (V → V → V → H → Prop)] : den IP c93_1 (@Q93_1 q g93_1) = fun e h => @L93_1 (e 0) (e 3) (e 26) h q g93_1 := by
  refine Eq.trans (seq_eq (seq_eq (seq_eq (@p93_2 q g93_1) (block_eq (seq_eq (seq_eq (block_eq (@w93_3 q g93_1)) rfl) rfl))) rfl) rfl) ?_
  kernel_rfl
def W93_1 (x0 x3 x26 : V) (h : H) [q : Hid (V → H → Prop)] : Prop := wFix (fun (g : V × V × V × Unit → H → Prop) (x : V × V × V × Unit) h => @L93_1 x.1 x.2.1 x.2.2.1 h q ⟨fun y0 y3 y26 h => g (y0, y3, y26, ()) h⟩) (x0, x3, x26, ()) h
theorem n93_1 [q : Hid (V → H → Prop)] : ∀ g : V × V × V × Unit → H → Prop, den IP c93_1 (Qx (fun e h => g ((fun e : E => ((e 0, e 3, e 26, ()) : V × V × V × Unit)) e) h) (@R93_1 q)) = fun e h => (fun (g : V × V × V × Unit → H → Prop) (x : V × V × V × Unit) h => @L93_1 x.1 x.2.1 x.2.2.1 h q ⟨fun y0 y3 y26 h => g (y0, y3, y26, ()) h⟩) g ((fun e : E => ((e 0, e 3, e 26, ()) : V × V × V × Unit)) e) h := fun g => @p93_1 q ⟨fun y0 y3 y26 h => g (y0, y3, y26, ()) h⟩
theorem w93_1 [q : Hid (V → H → Prop)] : den IP (.loop c93_1) (@R93_1 q) = fun e h => @W93_1 (e 0) (e 3) (e 26) h q := loop_eq (fun e : E => ((e 0, e 3, e 26, ()) : V × V × V × Unit)) (fun (g : V × V × V × Unit → H → Prop) (x : V × V × V × Unit) h => @L93_1 x.1 x.2.1 x.2.2.1 h q ⟨fun y0 y3 y26 h => g (y0, y3, y26, ()) h⟩) (@n93_1 q)
theorem m93_1 [q : Hid (V → H → Prop)] : Mono (fun (g : V × V × V × Unit → H → Prop) (x : V × V × V × Unit) h => @L93_1 x.1 x.2.1 x.2.2.1 h q ⟨fun y0 y3 y26 h => g (y0, y3, y26, ()) h⟩) := mono_of (p := (fun e : E => ((e 0, e 3, e 26, ()) : V × V × V × Unit))) (fun x : V × V × V × Unit => upd (upd (upd (fun _ => undefV) 26 (x.2.2.1)) 3 (x.2.1)) 0 (x.1)) (fun _ => rfl) (@n93_1 q)
theorem W93_1_inv {q : Hid (V → H → Prop)} (I : Nat → V → V → V → H → Prop) (step : ∀ n x0 x3 x26 h, I n x0 x3 x26 h → @L93_1 x0 x3 x26 h q ⟨fun y0 y3 y26 h => ∃ m, m < n ∧ I m y0 y3 y26 h⟩) (n : Nat) (x0 x3 x26 : V) (h : H) (hi : I n x0 x3 x26 h) : @W93_1 x0 x3 x26 h q :=
  wFix_inv (@m93_1 q) (fun n x h => I n x.1 x.2.1 x.2.2.1 h) (fun n x h hi => step n x.1 x.2.1 x.2.2.1 h hi) n (x0, x3, x26, ()) h hi
theorem W93_1_eq (x0 x3 x26 : V) (h : H) {q : Hid (V → H → Prop)} : @W93_1 x0 x3 x26 h q ↔ @L93_1 x0 x3 x26 h q ⟨fun y0 y3 y26 h => @W93_1 y0 y3 y26 h q⟩ := wFix_unroll (@m93_1 q) (x0, x3, x26, ()) h
def K93 (x0 x1 : V) (h : H) [q : Hid (V → H → Prop)] : Prop := @Bnd (V × H) (vBox x1 h) ⟨fun r1 => @Bnd V (vNilc x0) ⟨fun v2 => @Bnd V (vFa 50 v2) ⟨fun v3 => @Bnd V (vLd1 r1.2 v3) ⟨fun v4 => @Bnd V (vLdA r1.2 5 r1.1) ⟨fun v5 => @wF IP 131 [x0, v4, v5] r1.2 ⟨fun v6 h7 => @Bnd V (vNilc x0) ⟨fun v8 => @Bnd V (vFa 50 v8) ⟨fun v9 => @Bnd (V × H) (vStore h7 1 v9 v6) ⟨fun r10 => @Bnd V (vNilc x0) ⟨fun v11 => @Bnd V (vFa 49 v11) ⟨fun v12 => @Bnd V (vLd1 r10.2 v12) ⟨fun v13 => @Bnd V (vLdA r10.2 5 r1.1) ⟨fun v14 => @wF IP 131 [x0, v13, v14] r10.2 ⟨fun v15 h16 => @Bnd V (vNilc x0) ⟨fun v17 => @Bnd V (vFa 49 v17) ⟨fun v18 => @Bnd (V × H) (vStore h16 1 v18 v15) ⟨fun r19 => @W93_1 x0 r1.1 (.i .i64 0) r19.2 q⟩⟩⟩⟩⟩⟩⟩⟩⟩⟩⟩⟩⟩⟩⟩⟩⟩
theorem p93 [q : Hid (V → H → Prop)] : den IP c93 (@Q93 q) = fun e h => @K93 (e 0) (e 1) h q := by
  refine Eq.trans (seq_eq (seq_eq (seq_eq (seq_eq (block_eq (@w93_1 q)) rfl) rfl) rfl) rfl) ?_
  kernel_rfl
theorem f93 (a0 a1 : V) (h : H) (Q : V → H → Prop) : @wF IP 93 [a0, a1] h ⟨Q⟩ ↔ @K93 a0 a1 h ⟨Q⟩ := (Fnc_den (ip93) (by kernel_rfl) (by kernel_rfl) h Q).trans (iff_of_eq (congrFun (congrFun (@p93 ⟨Q⟩) _) h))
theorem ip94 : IP 94 = some ir94 := rfl
def Q94 [q : Hid (V → H → Prop)] : X → E → H → Prop := Qr rs94 q.un
def K94 (x0 x1 : V) (h : H) [q : Hid (V → H → Prop)] : Prop := @Bnd (V × H) (vBox x1 h) ⟨fun r1 => @Bnd V (vFa 0 r1.1) ⟨fun v2 => @Bnd V (vFa 0 v2) ⟨fun v3 => @Bnd V (vLd1 r1.2 v3) ⟨fun v4 => @Bnd V (vNilc x0) ⟨fun v5 => @Bnd V (vFa 0 v5) ⟨fun v6 => @Bnd V (vLd1 r1.2 v6) ⟨fun v7 => @Bnd V (bin .leq v4 v7) ⟨fun v8 => @Sel v8 ⟨@Bnd V (vNilc x0) ⟨fun v9 => @Bnd V (vFa 50 v9) ⟨fun v10 => @Bnd V (vLd1 r1.2 v10) ⟨fun v11 => @Bnd V (vLdA r1.2 6 r1.1) ⟨fun v12 => @Bnd (V × H) (vNewSl 1 [(.i .i64 0), (.i .i64 0), (.i .i64 0), (.i .i64 0), (.i .i64 0), (.i .i64 0)] [(0, 6, v12)] r1.2) ⟨fun r13 => @Bnd (V × H) (vApp 6 48 v11 r13.1 r13.2) ⟨fun r14 => @Bnd V (vNilc x0) ⟨fun v15 => @Bnd V (vFa 50 v15) ⟨fun v16 => @Bnd (V × H) (vStore r14.2 1 v16 r14.1) ⟨fun r17 => @Hid.un (V → H → Prop) q (.tup []) r17.2⟩⟩⟩⟩⟩⟩⟩⟩⟩⟩ ⟨@Bnd V (vFa 0 r1.1) ⟨fun v18 => @Bnd V (vFa 0 v18) ⟨fun v19 => @Bnd V (vLd1 r1.2 v19) ⟨fun v20 => @Bnd V (vNilc x0) ⟨fun v21 => @Bnd V (vFa 0 v21) ⟨fun v22 => @Bnd V (vLd1 r1.2 v22) ⟨fun v23 => @Bnd V (bin .sub v20 v23) ⟨fun v24 => @wF IP 132 [v24] r1.2 ⟨fun v25 h26 => @Bnd V (bin .eql v25 (.i .i64 3)) ⟨fun v27 => @Sel v27 ⟨@Bnd V (vNilc x0) ⟨fun v28 => @Bnd V (vFa 49 v28) ⟨fun v29 => @Bnd V (vLd1 h26 v29) ⟨fun v30 => @Bnd V (vLdA h26 6 r1.1) ⟨fun v31 => @Bnd (V × H) (vNewSl 1 [(.i .i64 0), (.i .i64 0), (.i .i64 0), (.i .i64 0), (.i .i64 0), (.i .i64 0)] [(0, 6, v31)] h26) ⟨fun r32 => @Bnd (V × H) (vApp 6 48 v30 r32.1 r32.2) ⟨fun r33 => @Bnd V (vNilc x0) ⟨fun v34 => @Bnd V (vFa 49 v34) ⟨fun v35 => @Bnd (V × H) (vStore r33.2 1 v35 r33.1) ⟨fun r36 => @Hid.un (V → H → Prop) q (.tup []) r36.2⟩⟩⟩⟩⟩⟩⟩⟩⟩⟩ ⟨@Bnd V (vFa 0 r1.1) ⟨fun v37 => @Bnd V (vFa 0 v37) ⟨fun v38 => @Bnd V (vLd1 h26 v38) ⟨fun v39 => @wF IP 129 [v25] h26 ⟨fun v40 h41 => @wF IP 130 [v39, v40, (.i .i64 16)] h41 ⟨fun v42 h43 => @Chk (stdy false 1 v38 h26 h41) ⟨@Bnd V (vNilc x0) ⟨fun v44 => @Bnd V (vFa 1 v44) ⟨fun v45 => @Bnd V (vIaa 16 3 v45 v25) ⟨fun v46 => @Bnd V (vIaa 1 16 v46 v42) ⟨fun v47 => @Bnd V (vLd1 h43 v47) ⟨fun v48 => @Bnd V (vLdA h43 6 r1.1) ⟨fun v49 => @Bnd (V × H) (vNewSl 1 [(.i .i64 0), (.i .i64 0), (.i .i64 0), (.i .i64 0), (.i .i64 0), (.i .i64 0)] [(0, 6, v49)] h43) ⟨fun r50 => @Bnd (V × H) (vApp 6 48 v48 r50.1 r50.2) ⟨fun r51 => @Bnd V (vNilc x0) ⟨fun v52 => @Bnd V (vFa 1 v52) ⟨fun v53 => @Bnd V (vIaa 16 3 v53 v25) ⟨fun v54 => @Bnd V (vIaa 1 16 v54 v42) ⟨fun v55 => @Bnd (V × H) (vStore r51.2 1 v55 r51.1) ⟨fun r56 => @Hid.un (V → H → Prop) q (.tup []) r56.2⟩⟩⟩⟩⟩⟩⟩⟩⟩⟩⟩⟩⟩⟩⟩⟩⟩⟩⟩⟩⟩⟩⟩⟩⟩⟩⟩⟩⟩⟩⟩⟩⟩⟩⟩⟩⟩⟩
theorem p94 [q : Hid (V → H → Prop)] : den IP c94 (@Q94 q) = fun e h => @K94 (e 0) (e 1) h q := by kernel_rfl
theorem f94 (a0 a1 : V) (h : H) (Q : V → H → Prop) : @wF IP 94 [a0, a1] h ⟨Q⟩ ↔ @K94 a0 a1 h ⟨Q⟩ := (Fnc_den (ip94) (by kernel_rfl) (by kernel_rfl) h Q).trans (iff_of_eq (congrFun (congrFun (@p94 ⟨Q⟩) _) h))
theorem ip127 : IP 127 = some ir127 := rfl
def Q127 [q : Hid (V → H → Prop)] : X → E → H → Prop := Qr rs127 q.un
def R127_1 [q : Hid (V → H → Prop)] : X → E → H → Prop := (Qb 0 (@Q127 q))
def Q127_1 [q : Hid (V → H → Prop)] [g127_1 : Hid (V → V → V → V → H → Prop)] : X → E → H → Prop := Qx (fun e h => g127_1.un (e 0) (e 12) (e 13) (e 14) h) (@R127_1 q)
def L127_1 (x0 x12 x13 x14 : V) (h : H) [q : Hid (V → H → Prop)] [g127_1 : Hid (V → V → V → V → H → Prop)] : Prop := @Bnd V (bin .lss x14 x13) ⟨fun v1 => @Sel v1 ⟨@Bnd V (vIa 6 x12 x14) ⟨fun v2 => @Bnd V (vLdA h 6 v2) ⟨fun v3 => @Bnd (V × H) (some (.p (some (H.nx h, 0)), H.new h ⟨false, [(.i .i64 0), (.i .i64 0), (.i .i64 0), (.i .i64 0), (.i .i64 0), (.i .i64 0)]⟩)) ⟨fun r4 => @Bnd (V × H) (vStore r4.2 6 r4.1 v3) ⟨fun r5 => @Bnd V (vLdA r5.2 6 r4.1) ⟨fun v6 => @wF IP 94 [x0, v6] r5.2 ⟨fun v7 h8 => @Bnd V (bin .add x14 (.i .i64 1)) ⟨fun v9 => @Hid.un (V → V → V → V → H → Prop) g127_1 x0 x12 x13 v9 h8⟩⟩⟩⟩⟩⟩⟩⟩ ⟨@Hid.un (V → H → Prop) q (.tup []) h⟩⟩
theorem p127_1 [q : Hid (V → H → Prop)] [g127_1 : Hid (V → V → V → V → H → Prop)] : den IP c127_1 (@Q127_1 q g127_1) = fun e h => @L127_1 (e 0) (e 12) (e 13) (e 14) h q g127_1 := by kernel_rfl
def W127_1 (x0 x12 x13 x14 : V) (h : H) [q : Hid (V → H → Prop)] : Prop := wFix (fun (g : V × V × V × V × Unit → H → Prop) (x : V × V × V × V × Unit) h => @L127_1 x.1 x.2.1 x.2.2.1 x.2.2.2.1 h q ⟨fun y0 y12 y13 y14 h => g (y0, y12, y13, y14, ()) h⟩) (x0, x12, x13, x14, ()) h
theorem n127_1 [q : Hid (V → H → Prop)] : ∀ g : V × V × V × V × Unit → H → Prop, den IP c127_1 (Qx (fun e h => g ((fun e : E => ((e 0, e 12, e 13, e 14, ()) : V × V × V × V × Unit)) e) h) (@R127_1 q)) = fun e h => (fun (g : V × V × V × V × Unit → H → Prop) (x : V × V × V × V × Unit) h => @L127_1 x.1 x.2.1 x.2.2.1 x.2.2.2.1 h q ⟨fun y0 y12 y13 y14 h => g (y0, y12, y13, y14, ()) h⟩) g ((fun e : E => ((e 0, e 12, e 13, e 14, ()) : V × V × V × V × Unit)) e) h := fun g => @p127_1 q ⟨fun y0 y12 y13 y14 h => g (y0, y12, y13, y14, ()) h⟩
theorem w127_1 [q : Hid (V → H → Prop)] : den IP (.loop c127_1) (@R127_1 q) = fun e h => @W127_1 (e 0) (e 12) (e 13) (e 14) h q := loop_eq (fun e : E => ((e 0, e 12, e 13, e 14, ()) : V × V × V × V × Unit)) (fun (g : V × V × V × V × Unit → H → Prop) (x : V × V × V × V × Unit) h => @L127_1 x.1 x.2.1 x.2.2.1 x.2.2.2.1 h q ⟨fun y0 y12 y13 y14 h => g (y0, y12, y13, y14, ()) h⟩) (@n127_1 q)
theorem m127_1 [q : Hid (V → H → Prop)] : Mono (fun (g : V × V × V × V × Unit → H → Prop) (x : V × V × V × V × Unit) h => @L127_1 x.1 x.2.1 x.2.2.1 x.2.2.2.1 h q ⟨fun y0 y12 y13 y14 h => g (y0, y12, y13, y14, ()) h⟩) := mono_of (p := (fun e : E => ((e 0, e 12, e 13, e 14, ()) : V × V × V × V × Unit))) (fun x : V × V × V × V × Unit => upd (upd (upd (upd (fun _ => undefV) 14 (x.2.2.2.1)) 13 (x.2.2.1)) 12 (x.2.1)) 0 (x.1)) (fun _ => rfl) (@n127_1 q)
theorem W127_1_inv {q : Hid (V → H → Prop)} (I : Nat → V → V → V → V → H → Prop) (step : ∀ n x0 x12 x13 x14 h, I n x0 x12 x13 x14 h → @L127_1 x0 x12 x13 x14 h q ⟨fun y0 y12 y13 y14 h => ∃ m, m < n ∧ I m y0 y12 y13 y14 h⟩) (n : Nat) (x0 x12 x13 x14 : V) (h : H) (hi : I n x0 x12 x13 x14 h) : @W127_1 x0 x12 x13 x14 h q :=
  wFix_inv (@m127_1 q) (fun n x h => I n x.1 x.2.1 x.2.2.1 x.2.2.2.1 h) (fun n x h hi => step n x.1 x.2.1 x.2.2.1 x.2.2.2.1 h hi) n (x0, x12, x13, x14, ()) h hi
theorem W127_1_eq (x0 x12 x13 x14 : V) (h : H) {q : Hid (V → H → Prop)} : @W127_1 x0 x12 x13 x14 h q ↔ @L127_1 x0 x12 x13 x14 h q ⟨fun y0 y12 y13 y14 h => @W127_1 y0 y12 y13 y14 h q⟩ := wFix_unroll (@m127_1 q) (x0, x12, x13, x14, ()) h
def K127 (x0 : V) (h : H) [q : Hid (V → H → Prop)] : Prop := @Bnd V (vNilc x0) ⟨fun v1 => @Bnd V (vFa 49 v1) ⟨fun v2 => @Bnd V (vLd1 h v2) ⟨fun v3 => @Bnd V (vNilc x0) ⟨fun v4 => @Bnd V (vFa 49 v4) ⟨fun v5 => @Bnd (V × H) (vStore h 1 v5 V.nsl) ⟨fun r6 => @Bnd V (vLens v3) ⟨fun v7 => @W127_1 x0 v3 v7 (.i .i64 0) r6.2 q⟩⟩⟩⟩⟩⟩⟩
theorem p127 [q : Hid (V → H → Prop)] : den IP c127 (@Q127 q) = fun e h => @K127 (e 0) h q := by
  refine Eq.trans (seq_eq (seq_eq (seq_eq (block_eq (@w127_1 q)) rfl) rfl) rfl) ?_
  kernel_rfl
theorem f127 (a0 : V) (h : H) (Q : V → H → Prop) : @wF IP 127 [a0] h ⟨Q⟩ ↔ @K127 a0 h ⟨Q⟩ := (Fnc_den (ip127) (by kernel_rfl) (by kernel_rfl) h Q).trans (iff_of_eq (congrFun (congrFun (@p127 ⟨Q⟩) _) h))
theorem ip128 : IP 128 = some ir128 := rfl
def Q128 [q : Hid (V → H → Prop)] : X → E → H → Prop := Qr rs128 q.un
def R128_1 [q : Hid (V → H → Prop)] : X → E → H → Prop := (Qb 0 (@Q128 q))
def Q128_1 [q : Hid (V → H → Prop)] [g128_1 : Hid (V → V → V → V → H → Prop)] : X → E → H → Prop := Qx (fun e h => g128_1.un (e 0) (e 24) (e 25) (e 26) h) (@R128_1 q)
def L128_1 (x0 x24 x25 x26 : V) (h : H) [q : Hid (V → H → Prop)] [g128_1 : Hid (V → V → V → V → H → Prop)] : Prop := @Bnd V (bin .lss x26 x25) ⟨fun v1 => @Sel v1 ⟨@Bnd V (vIa 6 x24 x26) ⟨fun v2 => @Bnd V (vLdA h 6 v2) ⟨fun v3 => @Bnd (V × H) (some (.p (some (H.nx h, 0)), H.new h ⟨false, [(.i .i64 0), (.i .i64 0), (.i .i64 0), (.i .i64 0), (.i .i64 0), (.i .i64 0)]⟩)) ⟨fun r4 => @Bnd (V × H) (vStore r4.2 6 r4.1 v3) ⟨fun r5 => @Bnd V (vLdA r5.2 6 r4.1) ⟨fun v6 => @wF IP 94 [x0, v6] r5.2 ⟨fun v7 h8 => @Bnd V (bin .add x26 (.i .i64 1)) ⟨fun v9 => @Hid.un (V → V → V → V → H → Prop) g128_1 x0 x24 x25 v9 h8⟩⟩⟩⟩⟩⟩⟩⟩ ⟨@Hid.un (V → H → Prop) q (.tup []) h⟩⟩
theorem p128_1 [q : Hid (V → H → Prop)] [g128_1 : Hid (V → V → V → V → H → Prop)] : den IP c128_1 (@Q128_1 q g128_1) = fun e h => @L128_1 (e 0) (e 24) (e 25) (e 26) h q g128_1 := by kernel_rfl
def W128_1 (x0 x24 x25 x26 : V) (h : H) [q : Hid (V → H → Prop)] : Prop := wFix (fun (g : V × V × V × V × Unit → H → Prop) (x : V × V × V × V × Unit) h => @L128_1 x.1 x.2.1 x.2.2.1 x.2.2.2.1 h q ⟨fun y0 y24 y25 y26 h => g (y0, y24, y25, y26, ()) h⟩) (x0, x24, x25, x26, ()) h
theorem n128_1 [q : Hid (V → H → Prop)] : ∀ g : V × V × V × V × Unit → H → Prop, den IP c128_1 (Qx (fun e h => g ((fun e : E => ((e 0, e 24, e 25, e 26, ()) : V × V × V × V × Unit)) e) h) (@R128_1 q)) = fun e h => (fun (g : V × V × V × V × Unit → H → Prop) (x : V × V × V × V × Unit) h => @L128_1 x.1 x.2.1 x.2.2.1 x.2.2.2.1 h q ⟨fun y0 y24 y25 y26 h => g (y0, y24, y25, y26, ()) h⟩) g ((fun e : E => ((e 0, e 24, e 25, e 26, ()) : V × V × V × V × Unit)) e) h := fun g => @p128_1 q ⟨fun y0 y24 y25 y26 h => g (y0, y24, y25, y26, ()) h⟩
theorem w128_1 [q : Hid (V → H → Prop)] : den IP (.loop c128_1) (@R128_1 q) = fun e h => @W128_1 (e 0) (e 24) (e 25) (e 26) h q := loop_eq (fun e : E => ((e 0, e 24, e 25, e 26, ()) : V × V × V × V × Unit)) (fun (g : V × V × V × V × Unit → H → Prop) (x : V × V × V × V × Unit) h => @L128_1 x.1 x.2.1 x.2.2.1 x.2.2.2.1 h q ⟨fun y0 y24 y25 y26 h => g (y0, y24, y25, y26, ()) h⟩) (@n128_1 q)
theorem m128_1 [q : Hid (V → H → Prop)] : Mono (fun (g : V × V × V × V × Unit → H → Prop) (x : V × V × V × V × Unit) h => @L128_1 x.1 x.2.1 x.2.2.1 x.2.2.2.1 h q ⟨fun y0 y24 y25 y26 h => g (y0, y24, y25, y26, ()) h⟩) := mono_of (p := (fun e : E => ((e 0, e 24, e 25, e 26, ()) : V × V × V × V × Unit))) (fun x : V × V × V × V × Unit => upd (upd (upd (upd (fun _ => undefV) 26 (x.2.2.2.1)) 25 (x.2.2.1)) 24 (x.2.1)) 0 (x.1)) (fun _ => rfl) (@n128_1 q)
theorem W128_1_inv {q : Hid (V → H → Prop)} (I : Nat → V → V → V → V → H → Prop) (step : ∀ n x0 x24 x25 x26 h, I n x0 x24 x25 x26 h → @L128_1 x0 x24 x25 x26 h q ⟨fun y0 y24 y25 y26 h => ∃ m, m < n ∧ I m y0 y24 y25 y26 h⟩) (n : Nat) (x0 x24 x25 x26 : V) (h : H) (hi : I n x0 x24 x25 x26 h) : @W128_1 x0 x24 x25 x26 h q :=
  wFix_inv (@m128_1 q) (fun n x h => I n x.1 x.2.1 x.2.2.1 x.2.2.2.1 h) (fun n x h hi => step n x.1 x.2.1 x.2.2.1 x.2.2.2.1 h hi) n (x0, x24, x25, x26, ()) h hi
theorem W128_1_eq (x0 x24 x25 x26 : V) (h : H) {q : Hid (V → H → Prop)} : @W128_1 x0 x24 x25 x26 h q ↔ @L128_1 x0 x24 x25 x26 h q ⟨fun y0 y24 y25 y26 h => @W128_1 y0 y24 y25 y26 h q⟩ := wFix_unroll (@m128_1 q) (x0, x24, x25, x26, ()) h
def K128 (x0 x1 x2 : V) (h : H) [q : Hid (V → H → Prop)] : Prop := @Bnd V (vNilc x0) ⟨fun v1 => @Bnd V (vFa 1 v1) ⟨fun v2 => @Bnd V (vIaa 16 3 v2 x1) ⟨fun v3 => @Bnd V (vIaa 1 16 v3 x2) ⟨fun v4 => @Bnd V (vLd1 h v4) ⟨fun v5 => @Bnd V (vNilc x0) ⟨fun v6 => @Bnd V (vFa 1 v6) ⟨fun v7 => @Bnd V (vIaa 16 3 v7 x1) ⟨fun v8 => @Bnd V (vIaa 1 16 v8 x2) ⟨fun v9 => @Bnd (V × H) (vStore h 1 v9 V.nsl) ⟨fun r10 => @Bnd V (vLens v5) ⟨fun v11 => @W128_1 x0 v5 v11 (.i .i64 0) r10.2 q⟩⟩⟩⟩⟩⟩⟩⟩⟩⟩⟩
theorem p128 [q : Hid (V → H → Prop)] : den IP c128 (@Q128 q) = fun e h => @K128 (e 0) (e 1) (e 2) h q := by
  refine Eq.trans (seq_eq (seq_eq (seq_eq (block_eq (@w128_1 q)) rfl) rfl) rfl) ?_
  kernel_rfl
theorem f128 (a0 a1 a2 : V) (h : H) (Q : V → H → Prop) : @wF IP 128 [a0, a1, a2] h ⟨Q⟩ ↔ @K128 a0 a1 a2 h ⟨Q⟩ := (Fnc_den (ip128) (by kernel_rfl) (by kernel_rfl) h Q).trans (iff_of_eq (congrFun (congrFun (@p128 ⟨Q⟩) _) h))
theorem ip129 : IP 129 = some ir129 := rfl
def Q129 [q : Hid (V → H → Prop)] : X → E → H → Prop := Qr rs129 q.un
def K129 (x0 : V) (h : H) [q : Hid (V → H → Prop)] : Prop := @Bnd V (bin .mul (.i .i64 4) x0) ⟨fun v1 => @Bnd V (bin .shl (.i .i64 1) v1) ⟨fun v2 => @Hid.un (V → H → Prop) q v2 h⟩⟩
theorem p129 [q : Hid (V → H → Prop)] : den IP c129 (@Q129 q) = fun e h => @K129 (e 0) h q := by kernel_rfl
theorem f129 (a0 : V) (h : H) (Q : V → H → Prop) : @wF IP 129 [a0] h ⟨Q⟩ ↔ @K129 a0 h ⟨Q⟩ := (Fnc_den (ip129) (by kernel_rfl) (by kernel_rfl) h Q).trans (iff_of_eq (congrFun (congrFun (@p129 ⟨Q⟩) _) h))
theorem ip130 : IP 130 = some ir130 := rfl
def Q130 [q : Hid (V → H → Prop)] : X → E → H → Prop := Qr rs130 q.un
def Q130_1 [q : Hid (V → H → Prop)] : X → E → H → Prop := (@Q130 q)
def K130_1 (x0 x1 x2 : V) (h : H) [q : Hid (V → H → Prop)] : Prop := @wF IP 86 [x0] h ⟨fun v1 h2 => @Bnd V (bin .quo v1 x1) ⟨fun v3 => @Bnd V (bin .rem v3 x2) ⟨fun v4 => @Hid.un (V → H → Prop) q v4 h2⟩⟩⟩
def J130_1 [q : Hid (V → H → Prop)] : E → H → Prop := fun e h => @K130_1 (e 0) (e 1) (e 2) h q
theorem p130_1 [q : Hid (V → H → Prop)] : den IP c130_1 (@Q130_1 q) = (@J130_1 q) := by kernel_rfl
def Q130_2 [q : Hid (V → H → Prop)] : X → E → H → Prop := (Qx (@J130_1 q) (@Q130 q))
def K130_2 (x0 x1 x2 x12 : V) (h : H) [q : Hid (V → H → Prop)] : Prop := @Sel x12 ⟨@Hid.un (V → H → Prop) q (.i .i64 0) h⟩ ⟨@K130_1 x0 x1 x2 h q⟩
def J130_2 [q : Hid (V → H → Prop)] : E → H → Prop := fun e h => @K130_2 (e 0) (e 1) (e 2) (e 12) h q
theorem p130_2 [q : Hid (V → H → Prop)] : den IP c130_2 (@Q130_2 q) = (@J130_2 q) := by kernel_rfl
def S130_6 [q : Hid (V → H → Prop)] : E → H → Prop := ((Qx (@J130_2 q) (Qx (@J130_1 q) (@Q130 q))) X.normal)
def K130_6 (x0 x1 x2 x9 x11 : V) (h : H) [q : Hid (V → H → Prop)] : Prop := @Bnd V (vPick x9 (.b true) x11) ⟨fun v1 => @K130_2 x0 x1 x2 v1 h q⟩
def J130_6 [q : Hid (V → H → Prop)] : E → H → Prop := fun e h => @K130_6 (e 0) (e 1) (e 2) (e 9) (e 11) h q
theorem p130_6 [q : Hid (V → H → Prop)] : denOps IP o130_3 (@S130_6 q) = (@J130_6 q) := by
  refine Eq.trans (app_eq rfl rfl) ?_
  kernel_rfl
def K130 (x0 x1 x2 : V) (h : H) [q : Hid (V → H → Prop)] : Prop := @Bnd V (bin .lss x1 (.i .i64 1)) ⟨fun v1 => @Grd v1 false ⟨@Bnd V (bin .lss x2 (.i .i64 1)) ⟨fun v2 => @K130_6 x0 x1 x2 v1 v2 h q⟩⟩ ⟨@K130_6 x0 x1 x2 v1 undefV h q⟩⟩
theorem p130 [q : Hid (V → H → Prop)] : den IP c130 (@Q130 q) = fun e h => @K130 (e 0) (e 1) (e 2) h q := by
  refine Eq.trans (seq_eq (seq_eq (@p130_1 q) (seq_eq (@p130_2 q) (region_eq (app_eq (grp_eq2 9 false rfl (@p130_6 q) rfl) rfl)))) rfl) ?_
  kernel_rfl
theorem f130 (a0 a1 a2 : V) (h : H) (Q : V → H → Prop) : @wF IP 130 [a0, a1, a2] h ⟨Q⟩ ↔ @K130 a0 a1 a2 h ⟨Q⟩ := (Fnc_den (ip130) (by kernel_rfl) (by kernel_rfl) h Q).trans (iff_of_eq (congrFun (congrFun (@p130 ⟨Q⟩) _) h))
theorem ip131 : IP 131 = some ir131 := rfl
def Q131 [q : Hid (V → H → Prop)] : X → E → H → Prop := Qr rs131 q.un
def K131 (x0 x1 x2 : V) (h : H) [q : Hid (V → H → Prop)] : Prop := @Bnd (V × H) (vBox x2 h) ⟨fun r1 => @Bnd V (some (.fn 154 [r1.1])) ⟨fun v2 => @wF IP 153 [x1, v2] r1.2 ⟨fun v3 h4 => @Bnd V (vNilc x0) ⟨fun v5 => @Bnd V (vFa 51 v5) ⟨fun v6 => @Bnd V (vLd1 h4 v6) ⟨fun v7 => @Bnd V (vLens x1) ⟨fun v8 => @Bnd V (vLens v3) ⟨fun v9 => @Bnd V (bin .sub v8 v9) ⟨fun v10 => @Bnd V (bin .sub v7 v10) ⟨fun v11 => @Bnd V (vNilc x0) ⟨fun v12 => @Bnd V (vFa 51 v12) ⟨fun v13 => @Bnd (V × H) (vStore h4 1 v13 v11) ⟨fun r14 => @Hid.un (V → H → Prop) q v3 r14.2⟩⟩⟩⟩⟩⟩⟩⟩⟩⟩⟩⟩⟩
theorem p131 [q : Hid (V → H → Prop)] : den IP c131 (@Q131 q) = fun e h => @K131 (e 0) (e 1) (e 2) h q := by kernel_rfl
theorem f131 (a0 a1 a2 : V) (h : H) (Q : V → H → Prop) : @wF IP 131 [a0, a1, a2] h ⟨Q⟩ ↔ @K131 a0 a1 a2 h ⟨Q⟩ := (Fnc_den (ip131) (by kernel_rfl) (by kernel_rfl) h Q).trans (iff_of_eq (congrFun (congrFun (@p131 ⟨Q⟩) _) h))
theorem ip132 : IP 132 = some ir132 := rfl
def Q132 [q : Hid (V → H → Prop)] : X → E → H → Prop := Qr rs132 q.un
def Q132_1 [q : Hid (V → H → Prop)] : X → E → H → Prop := (@Q132 q)
def K132_1 (x3 : V) (h : H) [q : Hid (V → H → Prop)] : Prop := @Hid.un (V → H → Prop) q x3 h
def J132_1 [q : Hid (V → H → Prop)] : E → H → Prop := fun e h => @K132_1 (e 3) h q
theorem p132_1 [q : Hid (V → H → Prop)] : den IP c132_1 (@Q132_1 q) = (@J132_1 q) := by kernel_rfl
def R132_2 [q : Hid (V → H → Prop)] : X → E → H → Prop := (Qb 0 (Qx (@J132_1 q) (@Q132 q)))
def Q132_2 [q : Hid (V → H → Prop)] [g132_2 : Hid (V → V → H → Prop)] : X → E → H → Prop := Qx (fun e h => g132_2.un (e 0) (e 3) h) (@R132_2 q)
def Q132_3 [q : Hid (V → H → Prop)] [g132_2 : Hid (V → V → H → Prop)] : X → E → H → Prop := (@Q132_2 q g132_2)
def K132_3 (x0 x3 : V) (h : H) [q : Hid (V → H → Prop)] [g132_2 : Hid (V → V → H → Prop)] : Prop := @Bnd V (bin .add x3 (.i .i64 1)) ⟨fun v1 => @Hid.un (V → V → H → Prop) g132_2 x0 v1 h⟩
def J132_3 [q : Hid (V → H → Prop)] [g132_2 : Hid (V → V → H → Prop)] : E → H → Prop := fun e h => @K132_3 (e 0) (e 3) h q g132_2
theorem p132_3 [q : Hid (V → H → Prop)] [g132_2 : Hid (V → V → H → Prop)] : den IP c132_3 (@Q132_3 q g132_2) = (@J132_3 q g132_2) := by kernel_rfl
def Q132_4 [q : Hid (V → H → Prop)] [g132_2 : Hid (V → V → H → Prop)] : X → E → H → Prop := (Qx (@J132_3 q g132_2) (@Q132_2 q g132_2))
def K132_4 (x0 x3 x12 : V) (h : H) [q : Hid (V → H → Prop)] [g132_2 : Hid (V → V → H → Prop)] : Prop := @Sel x12 ⟨@K132_3 x0 x3 h q g132_2⟩ ⟨@K132_1 x3 h q⟩
def J132_4 [q : Hid (V → H → Prop)] [g132_2 : Hid (V → V → H → Prop)] : E → H → Prop := fun e h => @K132_4 (e 0) (e 3) (e 12) h q g132_2
theorem p132_4 [q : Hid (V → H → Prop)] [g132_2 : Hid (V → V → H → Prop)] : den IP c132_4 (@Q132_4 q g132_2) = (@J132_4 q g132_2) := by kernel_rfl
def S132_8 [q : Hid (V → H → Prop)] [g132_2 : Hid (V → V → H → Prop)] : E → H → Prop := ((Qx (@J132_4 q g132_2) (Qx (@J132_3 q g132_2) (@Q132_2 q g132_2))) X.normal)
def K132_8 (x0 x3 x6 x11 : V) (h : H) [q : Hid (V → H → Prop)] [g132_2 : Hid (V → V → H → Prop)] : Prop := @Bnd V (vPick x6 x11 (.b false)) ⟨fun v1 => @K132_4 x0 x3 v1 h q g132_2⟩
def J132_8 [q : Hid (V → H → Prop)] [g132_2 : Hid (V → V → H → Prop)] : E → H → Prop := fun e h => @K132_8 (e 0) (e 3) (e 6) (e 11) h q g132_2
theorem p132_8 [q : Hid (V → H → Prop)] [g132_2 : Hid (V → V → H → Prop)] : denOps IP o132_5 (@S132_8 q g132_2) = (@J132_8 q g132_2) := by
  refine Eq.trans (app_eq rfl rfl) ?_
  kernel_rfl
def L132_2 (x0 x3 : V) (h : H) [q : Hid (V → H → Prop)] [g132_2 : Hid (V → V → H → Prop)] : Prop := @Bnd V (bin .lss x3 (.i .i64 3)) ⟨fun v1 => @Grd v1 true ⟨@Bnd V (bin .add x3 (.i .i64 1)) ⟨fun v2 => @wF IP 129 [v2] h ⟨fun v3 h4 => @Bnd V (bin .geq x0 v3) ⟨fun v5 => @K132_8 x0 x3 v1 v5 h4 q g132_2⟩⟩⟩⟩ ⟨@K132_8 x0 x3 v1 undefV h q g132_2⟩⟩
theorem p132_2 [q : Hid (V → H → Prop)] [g132_2 : Hid (V → V → H → Prop)] : den IP c132_2 (@Q132_2 q g132_2) = fun e h => @L132_2 (e 0) (e 3) h q g132_2 := by
  refine Eq.trans (seq_eq (@p132_3 q g132_2) (seq_eq (@p132_4 q g132_2) (region_eq (app_eq (grp_eq2 6 true rfl (@p132_8 q g132_2) rfl) rfl)))) ?_
  kernel_rfl
def W132_2 (x0 x3 : V) (h : H) [q : Hid (V → H → Prop)] : Prop := wFix (fun (g : V × V × Unit → H → Prop) (x : V × V × Unit) h => @L132_2 x.1 x.2.1 h q ⟨fun y0 y3 h => g (y0, y3, ()) h⟩) (x0, x3, ()) h
theorem n132_2 [q : Hid (V → H → Prop)] : ∀ g : V × V × Unit → H → Prop, den IP c132_2 (Qx (fun e h => g ((fun e : E => ((e 0, e 3, ()) : V × V × Unit)) e) h) (@R132_2 q)) = fun e h => (fun (g : V × V × Unit → H → Prop) (x : V × V × Unit) h => @L132_2 x.1 x.2.1 h q ⟨fun y0 y3 h => g (y0, y3, ()) h⟩) g ((fun e : E => ((e 0, e 3, ()) : V × V × Unit)) e) h := fun g => @p132_2 q ⟨fun y0 y3 h => g (y0, y3, ()) h⟩
theorem w132_2 [q : Hid (V → H → Prop)] : den IP (.loop c132_2) (@R132_2 q) = fun e h => @W132_2 (e 0) (e 3) h q := loop_eq (fun e : E => ((e 0, e 3, ()) : V × V × Unit)) (fun (g : V × V × Unit → H → Prop) (x : V × V × Unit) h => @L132_2 x.1 x.2.1 h q ⟨fun y0 y3 h => g (y0, y3, ()) h⟩) (@n132_2 q)
theorem m132_2 [q : Hid (V → H → Prop)] : Mono (fun (g : V × V × Unit → H → Prop) (x : V × V × Unit) h => @L132_2 x.1 x.2.1 h q ⟨fun y0 y3 h => g (y0, y3, ()) h⟩) := mono_of (p := (fun e : E => ((e 0, e 3, ()) : V × V × Unit))) (fun x : V × V × Unit => upd (upd (fun _ => undefV) 3 (x.2.1)) 0 (x.1)) (fun _ => rfl) (@n132_2 q)
theorem W132_2_inv {q : Hid (V → H → Prop)} (I : Nat → V → V → H → Prop) (step : ∀ n x0 x3 h, I n x0 x3 h → @L132_2 x0 x3 h q ⟨fun y0 y3 h => ∃ m, m < n ∧ I m y0 y3 h⟩) (n : Nat) (x0 x3 : V) (h : H) (hi : I n x0 x3 h) : @W132_2 x0 x3 h q :=
  wFix_inv (@m132_2 q) (fun n x h => I n x.1 x.2.1 h) (fun n x h hi => step n x.1 x.2.1 h hi) n (x0, x3, ()) h hi
theorem W132_2_eq (x0 x3 : V) (h : H) {q : Hid (V → H → Prop)} : @W132_2 x0 x3 h q ↔ @L132_2 x0 x3 h q ⟨fun y0 y3 h => @W132_2 y0 y3 h q⟩ := wFix_unroll (@m132_2 q) (x0, x3, ()) h
def K132 (x0 : V) (h : H) [q : Hid (V → H → Prop)] : Prop := @W132_2 x0 (.i .i64 0) h q
theorem p132 [q : Hid (V → H → Prop)] : den IP c132 (@Q132 q) = fun e h => @K132 (e 0) h q := by
  refine Eq.trans (seq_eq (seq_eq (seq_eq (@p132_1 q) (block_eq (@w132_2 q))) rfl) rfl) ?_
  kernel_rfl
theorem f132 (a0 : V) (h : H) (Q : V → H → Prop) : @wF IP 132 [a0] h ⟨Q⟩ ↔ @K132 a0 h ⟨Q⟩ := (Fnc_den (ip132) (by kernel_rfl) (by kernel_rfl) h Q).trans (iff_of_eq (congrFun (congrFun (@p132 ⟨Q⟩) _) h))
theorem ip153 : IP 153 = some ir153 := rfl
def Q153 [q : Hid (V → H → Prop)] : X → E → H → Prop := Qr rs153 q.un
def Q153_1 [q : Hid (V → H → Prop)] : X → E → H → Prop := (@Q153 q)
def K153_1 (x0 x5 : V) (h : H) [q : Hid (V → H → Prop)] : Prop := @Bnd V (slcut 6 x0 (some x5) none none) ⟨fun v1 => @Bnd (V × H) (vClear [(.i .i64 0), (.i .i64 0), (.i .i64 0), (.i .i64 0), (.i .i64 0), (.i .i64 0)] v1 h) ⟨fun r2 => @Bnd V (slcut 6 x0 none (some x5) none) ⟨fun v3 => @Hid.un (V → H → Prop) q v3 r2.2⟩⟩⟩
def J153_1 [q : Hid (V → H → Prop)] : E → H → Prop := fun e h => @K153_1 (e 0) (e 5) h q
theorem p153_1 [q : Hid (V → H → Prop)] : den IP c153_1 (@Q153_1 q) = (@J153_1 q) := by kernel_rfl
def R153_2 [q : Hid (V → H → Prop)] : X → E → H → Prop := (Qb 0 (Qx (@J153_1 q) (@Q153 q)))
def Q153_2 [q : Hid (V → H → Prop)] [g153_2 : Hid (V → V → V → V → H → Prop)] : X → E → H → Prop := Qx (fun e h => g153_2.un (e 0) (e 1) (e 5) (e 6) h) (@R153_2 q)
def Q153_3 [q : Hid (V → H → Prop)] [g153_2 : Hid (V → V → V → V → H → Prop)] : X → E → H → Prop := (@Q153_2 q g153_2)
def K153_3 (x0 x1 x5 x6 : V) (h : H) [q : Hid (V → H → Prop)] [g153_2 : Hid (V → V → V → V → H → Prop)] : Prop := @Bnd V (bin .add x6 (.i .i64 1)) ⟨fun v1 => @Hid.un (V → V → V → V → H → Prop) g153_2 x0 x1 x5 v1 h⟩
def J153_3 [q : Hid (V → H → Prop)] [g153_2 : Hid (V → V → V → V → H → Prop)] : E → H → Prop := fun e h => @K153_3 (e 0) (e 1) (e 5) (e 6) h q g153_2
theorem p153_3 [q : Hid (V → H → Prop)] [g153_2 : Hid (V → V → V → V → H → Prop)] : den IP c153_3 (@Q153_3 q g153_2) = (@J153_3 q g153_2) := by kernel_rfl
def L153_2 (x0 x1 x5 x6 : V) (h : H) [q : Hid (V → H → Prop)] [g153_2 : Hid (V → V → V → V → H → Prop)] : Prop := @Bnd V (vLens x0) ⟨fun v1 => @Bnd V (bin .lss x6 v1) ⟨fun v2 => @Sel v2 ⟨@Bnd V (vIa 6 x0 x6) ⟨fun v3 => @Bnd V (vLdA h 6 v3) ⟨fun v4 => @Bnd (V × H) (some (.p (some (H.nx h, 0)), H.new h ⟨false, [(.i .i64 0), (.i .i64 0), (.i .i64 0), (.i .i64 0), (.i .i64 0), (.i .i64 0)]⟩)) ⟨fun r5 => @Bnd (V × H) (vStore r5.2 6 r5.1 v4) ⟨fun r6 => @Bnd V (vLdA r6.2 6 r5.1) ⟨fun v7 => @wV IP x1 [v7] r6.2 ⟨fun v8 h9 => @Bnd V (un .not v8) ⟨fun v10 => @Sel v10 ⟨@Bnd V (vLdA h9 6 r5.1) ⟨fun v11 => @Bnd V (vIa 6 x0 x5) ⟨fun v12 => @Bnd (V × H) (vStore h9 6 v12 v11) ⟨fun r13 => @Bnd V (bin .add x5 (.i .i64 1)) ⟨fun v14 => @K153_3 x0 x1 v14 x6 r13.2 q g153_2⟩⟩⟩⟩⟩ ⟨@K153_3 x0 x1 x5 x6 h9 q g153_2⟩⟩⟩⟩⟩⟩⟩⟩⟩ ⟨@K153_1 x0 x5 h q⟩⟩⟩
theorem p153_2 [q : Hid (V → H → Prop)] [g153_2 : Hid (V → V → V → V → H → Prop)] : den IP c153_2 (@Q153_2 q g153_2) = fun e h => @L153_2 (e 0) (e 1) (e 5) (e 6) h q g153_2 := by
  refine Eq.trans (seq_eq (seq_eq (@p153_3 q g153_2) rfl) rfl) ?_
  kernel_rfl
def W153_2 (x0 x1 x5 x6 : V) (h : H) [q : Hid (V → H → Prop)] : Prop := wFix (fun (g : V × V × V × V × Unit → H → Prop) (x : V × V × V × V × Unit) h => @L153_2 x.1 x.2.1 x.2.2.1 x.2.2.2.1 h q ⟨fun y0 y1 y5 y6 h => g (y0, y1, y5, y6, ()) h⟩) (x0, x1, x5, x6, ()) h
theorem n153_2 [q : Hid (V → H → Prop)] : ∀ g : V × V × V × V × Unit → H → Prop, den IP c153_2 (Qx (fun e h => g ((fun e : E => ((e 0, e 1, e 5, e 6, ()) : V × V × V × V × Unit)) e) h) (@R153_2 q)) = fun e h => (fun (g : V × V × V × V × Unit → H → Prop) (x : V × V × V × V × Unit) h => @L153_2 x.1 x.2.1 x.2.2.1 x.2.2.2.1 h q ⟨fun y0 y1 y5 y6 h => g (y0, y1, y5, y6, ()) h⟩) g ((fun e : E => ((e 0, e 1, e 5, e 6, ()) : V × V × V × V × Unit)) e) h := fun g => @p153_2 q ⟨fun y0 y1 y5 y6 h => g (y0, y1, y5, y6, ()) h⟩
theorem w153_2 [q : Hid (V → H → Prop)] : den IP (.loop c153_2) (@R153_2 q) = fun e h => @W153_2 (e 0) (e 1) (e 5) (e 6) h q := loop_eq (fun e : E => ((e 0, e 1, e 5, e 6, ()) : V × V × V × V × Unit)) (fun (g : V × V × V × V × Unit → H → Prop) (x : V × V × V × V × Unit) h => @L153_2 x.1 x.2.1 x.2.2.1 x.2.2.2.1 h q ⟨fun y0 y1 y5 y6 h => g (y0, y1, y5, y6, ()) h⟩) (@n153_2 q)
theorem m153_2 [q : Hid (V → H → Prop)] : Mono (fun (g : V × V × V × V × Unit → H → Prop) (x : V × V × V × V × Unit) h => @L153_2 x.1 x.2.1 x.2.2.1 x.2.2.2.1 h q ⟨fun y0 y1 y5 y6 h => g (y0, y1, y5, y6, ()) h⟩) := mono_of (p := (fun e : E => ((e 0, e 1, e 5, e 6, ()) : V × V × V × V × Unit))) (fun x : V × V × V × V × Unit => upd (upd (upd (upd (fun _ => undefV) 6 (x.2.2.2.1)) 5 (x.2.2.1)) 1 (x.2.1)) 0 (x.1)) (fun _ => rfl) (@n153_2 q)
theorem W153_2_inv {q : Hid (V → H → Prop)} (I : Nat → V → V → V → V → H → Prop) (step : ∀ n x0 x1 x5 x6 h, I n x0 x1 x5 x6 h → @L153_2 x0 x1 x5 x6 h q ⟨fun y0 y1 y5 y6 h => ∃ m, m < n ∧ I m y0 y1 y5 y6 h⟩) (n : Nat) (x0 x1 x5 x6 : V) (h : H) (hi : I n x0 x1 x5 x6 h) : @W153_2 x0 x1 x5 x6 h q :=
  wFix_inv (@m153_2 q) (fun n x h => I n x.1 x.2.1 x.2.2.1 x.2.2.2.1 h) (fun n x h hi => step n x.1 x.2.1 x.2.2.1 x.2.2.2.1 h hi) n (x0, x1, x5, x6, ()) h hi
theorem W153_2_eq (x0 x1 x5 x6 : V) (h : H) {q : Hid (V → H → Prop)} : @W153_2 x0 x1 x5 x6 h q ↔ @L153_2 x0 x1 x5 x6 h q ⟨fun y0 y1 y5 y6 h => @W153_2 y0 y1 y5 y6 h q⟩ := wFix_unroll (@m153_2 q) (x0, x1, x5, x6, ()) h
def K153 (x0 x1 : V) (h : H) [q : Hid (V → H → Prop)] : Prop := @wF IP 160 [x0, x1] h ⟨fun v1 h2 => @Bnd V (bin .eql v1 (.i .i64 (-1))) ⟨fun v3 => @Sel v3 ⟨@Hid.un (V → H → Prop) q x0 h2⟩ ⟨@Bnd V (bin .add v1 (.i .i64 1)) ⟨fun v4 => @W153_2 x0 x1 v1 v4 h2 q⟩⟩⟩⟩
theorem p153 [q : Hid (V → H → Prop)] : den IP c153 (@Q153 q) = fun e h => @K153 (e 0) (e 1) h q := by
  refine Eq.trans (seq_eq (seq_eq (seq_eq (seq_eq (@p153_1 q) (seq_eq (block_eq (@w153_2 q)) rfl)) rfl) rfl) rfl) ?_
  kernel_rfl
theorem f153 (a0 a1 : V) (h : H) (Q : V → H → Prop) : @wF IP 153 [a0, a1] h ⟨Q⟩ ↔ @K153 a0 a1 h ⟨Q⟩ := (Fnc_den (ip153) (by kernel_rfl) (by kernel_rfl) h Q).trans (iff_of_eq (congrFun (congrFun (@p153 ⟨Q⟩) _) h))
theorem ip154 : IP 154 = some ir154 := rfl
def Q154 [q : Hid (V → H → Prop)] : X → E → H → Prop := Qr rs154 q.un
def K154 (x0 x1 : V) (h : H) [q : Hid (V → H → Prop)] : Prop := @Bnd (V × H) (vBox x0 h) ⟨fun r1 => @Bnd V (vFa 0 r1.1) ⟨fun v2 => @Bnd V (vLdA r1.2 5 v2) ⟨fun v3 => @Bnd V (vLdA r1.2 5 x1) ⟨fun v4 => @wF IP 155 [v3, v4] r1.2 ⟨fun v5 h6 => @Hid.un (V → H → Prop) q v5 h6⟩⟩⟩⟩⟩
theorem p154 [q : Hid (V → H → Prop)] : den IP c154 (@Q154 q) = fun e h => @K154 (e 0) (e 1) h q := by kernel_rfl
theorem f154 (a0 a1 : V) (h : H) (Q : V → H → Prop) : @wF IP 154 [a0, a1] h ⟨Q⟩ ↔ @K154 a0 a1 h ⟨Q⟩ := (Fnc_den (ip154) (by kernel_rfl) (by kernel_rfl) h Q).trans (iff_of_eq (congrFun (congrFun (@p154 ⟨Q⟩) _) h))
theorem ip155 : IP 155 = some ir155 := rfl
def Q155 [q : Hid (V → H → Prop)] : X → E → H → Prop := Qr rs155 q.un
def S155_6 [q : Hid (V → H → Prop)] : E → H → Prop := ((Qx (den IP .ret (@Q155 q)) (@Q155 q)) X.normal)
def K155_6 (x17 x22 : V) (h : H) [q : Hid (V → H → Prop)] : Prop := @Bnd V (vPick x17 x22 (.b false)) ⟨fun v1 => @Hid.un (V → H → Prop) q v1 h⟩
def J155_6 [q : Hid (V → H → Prop)] : E → H → Prop := fun e h => @K155_6 (e 17) (e 22) h q
theorem p155_6 [q : Hid (V → H → Prop)] : denOps IP o155_1 (@S155_6 q) = (@J155_6 q) := by
  refine Eq.trans (app_eq rfl rfl) ?_
  kernel_rfl
def S155_7 [q : Hid (V → H → Prop)] : E → H → Prop := ((Qx (den IP .ret (@Q155 q)) (@Q155 q)) X.normal)
def K155_7 (x2 x3 x10 x15 : V) (h : H) [q : Hid (V → H → Prop)] : Prop := @Bnd V (vPick x10 x15 (.b false)) ⟨fun v1 => @Grd v1 true ⟨@Bnd V (vFa 4 x2) ⟨fun v2 => @Bnd V (vLd1 h v2) ⟨fun v3 => @Bnd V (vFa 4 x3) ⟨fun v4 => @Bnd V (vLd1 h v4) ⟨fun v5 => @Bnd V (bin .eql v3 v5) ⟨fun v6 => @K155_6 v1 v6 h q⟩⟩⟩⟩⟩⟩ ⟨@K155_6 v1 undefV h q⟩⟩
def J155_7 [q : Hid (V → H → Prop)] : E → H → Prop := fun e h => @K155_7 (e 2) (e 3) (e 10) (e 15) h q
theorem p155_7 [q : Hid (V → H → Prop)] : denOps IP o155_3 (@S155_7 q) = (@J155_7 q) := by
  refine Eq.trans (app_eq (grp_eq2 17 true rfl (@p155_6 q) rfl) rfl) ?_
  kernel_rfl
def K155 (x0 x1 : V) (h : H) [q : Hid (V → H → Prop)] : Prop := @Bnd (V × H) (vBox x0 h) ⟨fun r1 => @Bnd (V × H) (vBox x1 r1.2) ⟨fun r2 => @Bnd V (vFa 1 r1.1) ⟨fun v3 => @Bnd V (vLd1 r2.2 v3) ⟨fun v4 => @Bnd V (vFa 1 r2.1) ⟨fun v5 => @Bnd V (vLd1 r2.2 v5) ⟨fun v6 => @Bnd V (bin .eql v4 v6) ⟨fun v7 => @Grd v7 true ⟨@Bnd V (vFa 2 r1.1) ⟨fun v8 => @Bnd V (vLd1 r2.2 v8) ⟨fun v9 => @Bnd V (vFa 2 r2.1) ⟨fun v10 => @Bnd V (vLd1 r2.2 v10) ⟨fun v11 => @Bnd V (bin .eql v9 v11) ⟨fun v12 => @K155_7 r1.1 r2.1 v7 v12 r2.2 q⟩⟩⟩⟩⟩⟩ ⟨@K155_7 r1.1 r2.1 v7 undefV r2.2 q⟩⟩⟩⟩⟩⟩⟩⟩
theorem p155 [q : Hid (V → H → Prop)] : den IP c155 (@Q155 q) = fun e h => @K155 (e 0) (e 1) h q := by
  refine Eq.trans (seq_eq (seq_eq rfl (region_eq (app_eq (grp_eq2 10 true rfl (@p155_7 q) rfl) rfl))) rfl) ?_
  kernel_rfl
theorem f155 (a0 a1 : V) (h : H) (Q : V → H → Prop) : @wF IP 155 [a0, a1] h ⟨Q⟩ ↔ @K155 a0 a1 h ⟨Q⟩ := (Fnc_den (ip155) (by kernel_rfl) (by kernel_rfl) h Q).trans (iff_of_eq (congrFun (congrFun (@p155 ⟨Q⟩) _) h))
theorem ip160 : IP 160 = some ir160 := rfl
def Q160 [q : Hid (V → H → Prop)] : X → E → H → Prop := Qr rs160 q.un
def Q160_1 [q : Hid (V → H → Prop)] : X → E → H → Prop := (@Q160 q)
def K160_1 (h : H) [q : Hid (V → H → Prop)] : Prop := @Hid.un (V → H → Prop) q (.i .i64 (-1)) h
def J160_1 [q : Hid (V → H → Prop)] : E → H → Prop := fun e h => @K160_1 h q
theorem p160_1 [q : Hid (V → H → Prop)] : den IP c160_1 (@Q160_1 q) = (@J160_1 q) := by kernel_rfl
def R160_2 [q : Hid (V → H → Prop)] : X → E → H → Prop := (Qb 0 (Qx (@J160_1 q) (@Q160 q)))
def Q160_2 [q : Hid (V → H → Prop)] [g160_2 : Hid (V → V → V → V → H → Prop)] : X → E → H → Prop := Qx (fun e h => g160_2.un (e 0) (e 1) (e 7) (e 8) h) (@R160_2 q)
def L160_2 (x0 x1 x7 x8 : V) (h : H) [q : Hid (V → H → Prop)] [g160_2 : Hid (V → V → V → V → H → Prop)] : Prop := @Bnd V (bin .lss x8 x7) ⟨fun v1 => @Sel v1 ⟨@Bnd V (vIa 6 x0 x8) ⟨fun v2 => @Bnd V (vLdA h 6 v2) ⟨fun v3 => @wV IP x1 [v3] h ⟨fun v4 h5 => @Sel v4 ⟨@Hid.un (V → H → Prop) q x8 h5⟩ ⟨@Bnd V (bin .add x8 (.i .i64 1)) ⟨fun v6 => @Hid.un (V → V → V → V → H → Prop) g160_2 x0 x1 x7 v6 h5⟩⟩⟩⟩⟩⟩ ⟨@K160_1 h q⟩⟩
theorem p160_2 [q : Hid (V → H → Prop)] [g160_2 : Hid (V → V → V → V → H → Prop)] : den IP c160_2 (@Q160_2 q g160_2) = fun e h => @L160_2 (e 0) (e 1) (e 7) (e 8) h q g160_2 := by kernel_rfl
def W160_2 (x0 x1 x7 x8 : V) (h : H) [q : Hid (V → H → Prop)] : Prop := wFix (fun (g : V × V × V × V × Unit → H → Prop) (x : V × V × V × V × Unit) h => @L160_2 x.1 x.2.1 x.2.2.1 x.2.2.2.1 h q ⟨fun y0 y1 y7 y8 h => g (y0, y1, y7, y8, ()) h⟩) (x0, x1, x7, x8, ()) h
theorem n160_2 [q : Hid (V → H → Prop)] : ∀ g : V × V × V × V × Unit → H → Prop, den IP c160_2 (Qx (fun e h => g ((fun e : E => ((e 0, e 1, e 7, e 8, ()) : V × V × V × V × Unit)) e) h) (@R160_2 q)) = fun e h => (fun (g : V × V × V × V × Unit → H → Prop) (x : V × V × V × V × Unit) h => @L160_2 x.1 x.2.1 x.2.2.1 x.2.2.2.1 h q ⟨fun y0 y1 y7 y8 h => g (y0, y1, y7, y8, ()) h⟩) g ((fun e : E => ((e 0, e 1, e 7, e 8, ()) : V × V × V × V × Unit)) e) h := fun g => @p160_2 q ⟨fun y0 y1 y7 y8 h => g (y0, y1, y7, y8, ()) h⟩
theorem w160_2 [q : Hid (V → H → Prop)] : den IP (.loop c160_2) (@R160_2 q) = fun e h => @W160_2 (e 0) (e 1) (e 7) (e 8) h q := loop_eq (fun e : E => ((e 0, e 1, e 7, e 8, ()) : V × V × V × V × Unit)) (fun (g : V × V × V × V × Unit → H → Prop) (x : V × V × V × V × Unit) h => @L160_2 x.1 x.2.1 x.2.2.1 x.2.2.2.1 h q ⟨fun y0 y1 y7 y8 h => g (y0, y1, y7, y8, ()) h⟩) (@n160_2 q)
theorem m160_2 [q : Hid (V → H → Prop)] : Mono (fun (g : V × V × V × V × Unit → H → Prop) (x : V × V × V × V × Unit) h => @L160_2 x.1 x.2.1 x.2.2.1 x.2.2.2.1 h q ⟨fun y0 y1 y7 y8 h => g (y0, y1, y7, y8, ()) h⟩) := mono_of (p := (fun e : E => ((e 0, e 1, e 7, e 8, ()) : V × V × V × V × Unit))) (fun x : V × V × V × V × Unit => upd (upd (upd (upd (fun _ => undefV) 8 (x.2.2.2.1)) 7 (x.2.2.1)) 1 (x.2.1)) 0 (x.1)) (fun _ => rfl) (@n160_2 q)
theorem W160_2_inv {q : Hid (V → H → Prop)} (I : Nat → V → V → V → V → H → Prop) (step : ∀ n x0 x1 x7 x8 h, I n x0 x1 x7 x8 h → @L160_2 x0 x1 x7 x8 h q ⟨fun y0 y1 y7 y8 h => ∃ m, m < n ∧ I m y0 y1 y7 y8 h⟩) (n : Nat) (x0 x1 x7 x8 : V) (h : H) (hi : I n x0 x1 x7 x8 h) : @W160_2 x0 x1 x7 x8 h q :=
  wFix_inv (@m160_2 q) (fun n x h => I n x.1 x.2.1 x.2.2.1 x.2.2.2.1 h) (fun n x h hi => step n x.1 x.2.1 x.2.2.1 x.2.2.2.1 h hi) n (x0, x1, x7, x8, ()) h hi
theorem W160_2_eq (x0 x1 x7 x8 : V) (h : H) {q : Hid (V → H → Prop)} : @W160_2 x0 x1 x7 x8 h q ↔ @L160_2 x0 x1 x7 x8 h q ⟨fun y0 y1 y7 y8 h => @W160_2 y0 y1 y7 y8 h q⟩ := wFix_unroll (@m160_2 q) (x0, x1, x7, x8, ()) h
def K160 (x0 x1 : V) (h : H) [q : Hid (V → H → Prop)] : Prop := @Bnd V (vLens x0) ⟨fun v1 => @W160_2 x0 x1 v1 (.i .i64 0) h q⟩
theorem p160 [q : Hid (V → H → Prop)] : den IP c160 (@Q160 q) = fun e h => @K160 (e 0) (e 1) h q := by
  refine Eq.trans (seq_eq (seq_eq (@p160_1 q) (seq_eq (block_eq (@w160_2 q)) rfl)) rfl) ?_
  kernel_rfl
theorem f160 (a0 a1 : V) (h : H) (Q : V → H → Prop) : @wF IP 160 [a0, a1] h ⟨Q⟩ ↔ @K160 a0 a1 h ⟨Q⟩ := (Fnc_den (ip160) (by kernel_rfl) (by kernel_rfl) h Q).trans (iff_of_eq (congrFun (congrFun (@p160 ⟨Q⟩) _) h))
end Go.Proofs.Ytonhcimkodgijaa.IrWheelFar
