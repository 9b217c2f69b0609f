/-
  The abstract machine's text of the functions that SendAlone reaches, and: it is the loaded program's. Then the functions without temporaries.
-/
import Derived.Test.YtbbencnhecokiaaProg
import Derived.Test.YtbbencnhecokiaaMxT
import Derived.Test.YtbbencnhecokiaaMxU
namespace Go.Proofs.Ytbbencnhecokiaa.IrSendAlone
open Go Mx
set_option maxRecDepth 100000
set_option linter.unusedVariables false
/-! cableway/cablewaylaw07.SendAlone -/
def rs4 : List RV := [(.t 6)]
def c4_1 : IC := (.seq (.region [⟨some 123, .ef (.call 17 []), none⟩, ⟨some 6, .pu (.mov (.t 123)), none⟩]) .ret)
def c4_4 : IC := (.region [⟨some 38, .pu (.mov (.t 10)), none⟩, ⟨some 39, .pu (.bin .add (.t 38) (.c (.i .i64 1))), none⟩, ⟨some 10, .pu (.mov (.t 39)), none⟩])
def c4_8 : IC := (.seq (.seq (.region [⟨some 105, .pu (.mov (.t 16)), none⟩, ⟨some 106, .pu (.bin .lss (.t 105) (.c (.i .i64 3))), none⟩]) (.cond (.t 106) .skip (.exit 2))) (.seq (.block 3 (.seq (.draw [⟨some 109, .pu (.mov (.t 9)), none⟩, ⟨some 110, .ld true 2 (.t 8), none⟩, ⟨some 111, .pu (.mov (.t 10)), none⟩, ⟨some 112, .pu (.cvi .u64 (.t 111)), none⟩, ⟨some 113, .pu (.mov (.t 16)), none⟩, ⟨some 114, .ef (.call 25 [(.t 110), (.t 112), (.t 113)]), none⟩, ⟨some 115, .ef (.call 24 [(.t 109), (.t 114)]), none⟩, ⟨some 116, .pu (.mov (.t 1)), none⟩, ⟨some 117, .pu (.mov (.t 10)), none⟩, ⟨some 118, .pu (.mov (.t 16)), none⟩, ⟨some 119, .pu (.ia 3 (.t 116) (.t 117)), none⟩, ⟨some 120, .pu (.iaa 1 3 (.t 119) (.t 118)), none⟩, ⟨some 121, .ld false 1 (.t 120), none⟩, ⟨some 122, .pu (.bin .neq (.t 115) (.t 121)), none⟩] [(12, 5), (12, 6)]) (.cond (.t 122) (.seq (.region [⟨some 6, .pu (.mov (.c (.b false))), none⟩]) .ret) .skip))) (.region [⟨some 107, .pu (.mov (.t 16)), none⟩, ⟨some 108, .pu (.bin .add (.t 107) (.c (.i .i64 1))), none⟩, ⟨some 16, .pu (.mov (.t 108)), none⟩])))
def c4_7 : IC := (.seq (.region [⟨some 16, .pu (.mov (.c (.i .i64 0))), none⟩]) (.block 2 (.loop c4_8)))
def c4_9 : IC := (.cond (.t 104) (.seq (.region [⟨some 6, .pu (.mov (.c (.b false))), none⟩]) .ret) .skip)
def o4_10 : List IOp := [⟨some 104, .pu (.pick (.t 97) (.c (.b true)) (.t 103)), none⟩] ++ []
def o4_11 : List IOp := [⟨some 98, .pu (.mov (.t 9)), some (97, false)⟩, ⟨some 99, .ld true 2 (.t 8), some (97, false)⟩, ⟨some 100, .pu (.mov (.t 10)), some (97, false)⟩, ⟨some 101, .pu (.cvi .u64 (.t 100)), some (97, false)⟩, ⟨some 102, .ef (.call 23 [(.t 98), (.t 99), (.t 101)]), some (97, false)⟩, ⟨some 103, .pu (.un .not (.t 102)), some (97, false)⟩] ++ o4_10
def o4_12 : List IOp := [⟨some 92, .ld true 9 (.t 12), none⟩, ⟨some 93, .ef (.call 22 [(.t 92)]), none⟩, ⟨some 94, .pu (.mov (.t 10)), none⟩, ⟨some 95, .pu (.cvi .u64 (.t 94)), none⟩, ⟨some 96, .pu (.bin .neq (.t 93) (.t 95)), none⟩, ⟨some 97, .pu (.mov (.t 96)), none⟩] ++ o4_11
def c4_6 : IC := (.seq (.seq (.region [⟨some 88, .pu (.mov (.t 14)), none⟩, ⟨some 89, .pu (.bin .neq (.t 88) (.c (.i .i64 0))), none⟩]) (.cond (.t 89) (.seq (.seq (.region [⟨some 90, .pu (.mov (.t 14)), none⟩, ⟨some 91, .pu (.bin .neq (.t 90) (.c (.i .i64 3))), none⟩]) (.cond (.t 91) (.seq (.region [⟨some 6, .pu (.mov (.c (.b false))), none⟩]) .ret) .skip)) (.exit 1)) .skip)) (.seq (.seq (.region o4_12) c4_9) c4_7))
def c4_14 : IC := (.cond (.t 87) (.seq (.region [⟨some 6, .pu (.mov (.c (.b false))), none⟩]) .ret) .skip)
def o4_15 : List IOp := [⟨some 87, .pu (.pick (.t 80) (.c (.b true)) (.t 86)), none⟩] ++ []
def o4_16 : List IOp := [⟨some 81, .ld true 9 (.t 12), some (80, false)⟩, ⟨some 82, .ef (.call 18 [(.t 81)]), some (80, false)⟩, ⟨some 83, .pu (.mov (.t 10)), some (80, false)⟩, ⟨some 84, .pu (.mov (.t 7)), some (80, false)⟩, ⟨some 85, .pu (.bin .lss (.t 83) (.t 84)), some (80, false)⟩, ⟨some 86, .pu (.eqz true .b (.t 82) (.t 85)), some (80, false)⟩] ++ o4_15
def o4_17 : List IOp := [⟨some 79, .pu (.pick (.t 76) (.c (.b true)) (.t 78)), none⟩, ⟨some 80, .pu (.mov (.t 79)), none⟩] ++ o4_16
def o4_18 : List IOp := [⟨some 77, .pu (.mov (.t 13)), some (76, false)⟩, ⟨some 78, .pu (.bin .lss (.t 77) (.c (.i .i64 1))), some (76, false)⟩] ++ o4_17
def o4_19 : List IOp := [⟨some 75, .pu (.pick (.t 68) (.c (.b true)) (.t 74)), none⟩, ⟨some 76, .pu (.mov (.t 75)), none⟩] ++ o4_18
def o4_20 : List IOp := [⟨some 69, .pu (.mov (.t 14)), some (68, false)⟩, ⟨some 70, .pu (.bin .eql (.t 69) (.c (.i .i64 0))), some (68, false)⟩, ⟨some 71, .pu (.mov (.t 10)), some (68, false)⟩, ⟨some 72, .pu (.mov (.t 7)), some (68, false)⟩, ⟨some 73, .pu (.bin .lss (.t 71) (.t 72)), some (68, false)⟩, ⟨some 74, .pu (.eqz true .b (.t 70) (.t 73)), some (68, false)⟩] ++ o4_19
def o4_21 : List IOp := [⟨some 66, .pu (.mov (.t 15)), none⟩, ⟨some 67, .pu (.un .not (.t 66)), none⟩, ⟨some 68, .pu (.mov (.t 67)), none⟩] ++ o4_20
def c4_5 : IC := (.seq (.region [⟨some 56, .pu (.mov (.t 9)), none⟩, ⟨some 57, .ld true 9 (.t 11), none⟩, ⟨some 58, .ef (.call 21 [(.t 56), (.t 57)]), none⟩, ⟨some 55, .pu (.mov (.t 58)), none⟩, ⟨some 59, .pu (.ext (.t 55) 0), none⟩, ⟨some 60, .pu (.ext (.t 55) 1), none⟩, ⟨some 12, .al (.zero [(.i .i64 0), (.i .i64 0), (.i .u64 0), (.i .u64 0), (.i .u64 0), (.i .u64 0), (.i .i64 0), (.b false), (.b false)]), none⟩, ⟨none, .ef (.store 9 (.t 12) (.t 59)), none⟩, ⟨some 13, .pu (.mov (.t 60)), none⟩]) (.seq (.region [⟨some 62, .ld true 9 (.t 12), none⟩, ⟨some 63, .ef (.call 16 [(.t 62)]), none⟩, ⟨some 61, .pu (.mov (.t 63)), none⟩, ⟨some 64, .pu (.ext (.t 61) 0), none⟩, ⟨some 65, .pu (.ext (.t 61) 1), none⟩, ⟨some 14, .pu (.mov (.t 64)), none⟩, ⟨some 15, .pu (.mov (.t 65)), none⟩]) (.seq (.seq (.region o4_21) c4_14) c4_6)))
def c4_3 : IC := (.seq (.block 1 (.seq (.draw [⟨some 40, .ld true 2 (.t 8), none⟩, ⟨some 41, .pu (.mov (.t 1)), none⟩, ⟨some 42, .pu (.mov (.t 10)), none⟩, ⟨some 43, .pu (.ia 3 (.t 41) (.t 42)), none⟩, ⟨some 44, .ld true 3 (.t 43), none⟩, ⟨some 45, .ef (.call 13 [(.t 40), (.t 44)]), none⟩, ⟨some 11, .al (.zero [(.i .i64 0), (.i .i64 0), (.i .u64 0), (.i .u64 0), (.i .u64 0), (.i .u64 0), (.i .i64 0), (.b false), (.b false)]), none⟩, ⟨none, .ef (.store 9 (.t 11) (.t 45)), none⟩] []) (.seq (.seq (.region [⟨some 46, .pu (.mov (.t 2)), none⟩]) (.cond (.t 46) (.draw [⟨some 47, .ld true 2 (.t 8), none⟩, ⟨some 48, .pu (.mov (.t 1)), none⟩, ⟨some 49, .pu (.mov (.t 10)), none⟩, ⟨some 50, .pu (.ia 3 (.t 48) (.t 49)), none⟩, ⟨some 51, .ld true 3 (.t 50), none⟩, ⟨some 52, .pu (.mov (.t 10)), none⟩, ⟨some 53, .pu (.cvi .u64 (.t 52)), none⟩, ⟨some 54, .ef (.call 15 [(.t 47), (.t 51), (.t 53)]), none⟩, ⟨none, .ef (.store 9 (.t 11) (.t 54)), none⟩] []) .skip)) c4_5))) c4_4)
def c4_25 : IC := (.cond (.t 37) .skip (.exit 0))
def o4_26 : List IOp := [⟨some 37, .pu (.pick (.t 34) (.t 36) (.c (.b false))), none⟩] ++ []
def o4_27 : List IOp := [⟨some 35, .pu (.mov (.t 10)), some (34, true)⟩, ⟨some 36, .pu (.bin .lss (.t 35) (.c (.i .i64 8))), some (34, true)⟩] ++ o4_26
def o4_28 : List IOp := [⟨some 30, .pu (.mov (.t 10)), none⟩, ⟨some 31, .pu (.mov (.t 1)), none⟩, ⟨some 32, .pu (.lens (.t 31)), none⟩, ⟨some 33, .pu (.bin .lss (.t 30) (.t 32)), none⟩, ⟨some 34, .pu (.mov (.t 33)), none⟩] ++ o4_27
def c4_2 : IC := (.seq (.seq (.region o4_28) c4_25) c4_3)
def c4 : IC := (.seq (.region [⟨some 6, .pu (.mov (.c (.b false))), none⟩]) (.seq (.region [⟨some 17, .pu (.mov (.t 0)), none⟩, ⟨some 18, .pu (.bin .and (.t 17) (.c (.i .i64 1))), none⟩, ⟨some 19, .pu (.cvi .u64 (.t 18)), none⟩, ⟨some 20, .pu (.bin .shl (.c (.i .i64 2)) (.t 19)), none⟩, ⟨some 7, .pu (.mov (.t 20)), none⟩]) (.seq (.region [⟨some 21, .pu (.mov (.t 7)), none⟩, ⟨some 22, .pu (.bld [(.i .i64 0), (.i .i64 0)] [(0, 1, (.c (.i .i64 3))), (1, 1, (.t 21))]), none⟩, ⟨some 8, .al (.zero [(.i .i64 0), (.i .i64 0)]), none⟩, ⟨none, .ef (.store 2 (.t 8) (.t 22)), none⟩]) (.seq (.region [⟨some 23, .pu (.mov (.t 7)), none⟩, ⟨some 24, .ef (.call 19 [(.t 23)]), none⟩, ⟨some 25, .pu (.bin .add (.c (.i .i64 3)) (.t 24)), none⟩, ⟨some 26, .ef (.call 12 [(.t 25)]), none⟩, ⟨some 9, .pu (.mov (.t 26)), none⟩]) (.seq (.region [⟨some 27, .pu (.mov (.t 9)), none⟩, ⟨some 28, .ld true 2 (.t 8), none⟩, ⟨some 29, .ef (.call 20 [(.t 27), (.t 28)]), none⟩]) (.seq (.seq (.region [⟨some 10, .pu (.mov (.c (.i .i64 0))), none⟩]) (.block 0 (.loop c4_2))) c4_1))))))
def ir4 : IFn := { ntmps := 124, results := rs4, body := c4 }
/-! cableway/arena.New -/
def rs12 : List RV := [(.t 2)]
def c12_1 : IC := (.seq (.region [⟨some 9, .pu (.mov (.t 0)), none⟩, ⟨some 10, .al (.mks 8 [(.i .u64 0)] (.t 9)), none⟩, ⟨some 11, .pu (.bld [.nsl, .nsl, (.i .i64 0)] [(0, 1, (.t 10))]), none⟩, ⟨some 12, .al (.box (.t 11)), none⟩, ⟨some 2, .pu (.mov (.t 12)), none⟩]) .ret)
def c12_2 : IC := (.cond (.t 8) (.seq (.region [⟨some 2, .pu (.mov (.c (.p none))), none⟩]) .ret) .skip)
def o12_3 : List IOp := [⟨some 8, .pu (.pick (.t 5) (.c (.b true)) (.t 7)), none⟩] ++ []
def o12_4 : List IOp := [⟨some 6, .pu (.mov (.t 0)), some (5, false)⟩, ⟨some 7, .pu (.bin .gtr (.t 6) (.c (.i .i64 16384))), some (5, false)⟩] ++ o12_3
def o12_5 : List IOp := [⟨some 3, .pu (.mov (.t 0)), none⟩, ⟨some 4, .pu (.bin .lss (.t 3) (.c (.i .i64 1))), none⟩, ⟨some 5, .pu (.mov (.t 4)), none⟩] ++ o12_4
def c12 : IC := (.seq (.region [⟨some 2, .pu (.mov (.c (.p none))), none⟩]) (.seq (.seq (.region o12_5) c12_2) c12_1))
def ir12 : IFn := { ntmps := 13, results := rs12, body := c12 }
/-! cableway/send.New -/
def rs13 : List RV := [(.c 4 true 9)]
def c13 : IC := (.seq (.region [⟨some 2, .al (.box (.t 0)), none⟩, ⟨some 3, .al (.box (.t 1)), none⟩, ⟨some 4, .al (.zero [(.i .i64 0), (.i .i64 0), (.i .u64 0), (.i .u64 0), (.i .u64 0), (.i .u64 0), (.i .i64 0), (.b false), (.b false)]), none⟩]) (.seq (.region [⟨some 5, .ld true 2 (.t 2), none⟩, ⟨some 6, .ld true 3 (.t 3), none⟩, ⟨some 7, .pu (.bld [(.i .i64 0), (.i .i64 0), (.i .u64 0), (.i .u64 0), (.i .u64 0), (.i .u64 0), (.i .i64 0), (.b false), (.b false)] [(0, 2, (.t 5)), (2, 3, (.t 6))]), none⟩, ⟨none, .ef (.store 9 (.t 4) (.t 7)), none⟩]) .ret))
def ir13 : IFn := { ntmps := 8, results := rs13, body := c13 }
/-! (cableway/send.Task).Step -/
def rs14 : List RV := [(.c 4 true 9)]
def c14_1 : IC := (.seq (.region [⟨some 89, .ld true 9 (.t 2), none⟩, ⟨none, .ef (.store 9 (.t 4) (.t 89)), none⟩]) .ret)
def c14 : IC := (.seq (.region [⟨some 2, .al (.box (.t 0)), none⟩, ⟨some 4, .al (.zero [(.i .i64 0), (.i .i64 0), (.i .u64 0), (.i .u64 0), (.i .u64 0), (.i .u64 0), (.i .i64 0), (.b false), (.b false)]), none⟩]) (.seq (.seq (.region [⟨some 9, .ld true 9 (.t 2), none⟩, ⟨some 10, .ef (.call 16 [(.t 9)]), none⟩, ⟨some 8, .pu (.mov (.t 10)), none⟩, ⟨some 11, .pu (.ext (.t 8) 0), none⟩, ⟨some 12, .pu (.ext (.t 8) 1), none⟩, ⟨some 5, .pu (.mov (.t 11)), none⟩, ⟨some 6, .pu (.mov (.t 12)), none⟩]) (.seq (.region [⟨some 13, .pu (.mov (.t 6)), none⟩]) (.cond (.t 13) (.seq (.region [⟨some 14, .ld true 9 (.t 2), none⟩, ⟨none, .ef (.store 9 (.t 4) (.t 14)), none⟩]) .ret) .skip))) (.seq (.seq (.region [⟨some 15, .pu (.fa 0 (.t 2)), none⟩, ⟨some 16, .ld true 2 (.t 15), none⟩, ⟨some 17, .ef (.call 50 [(.t 16)]), none⟩, ⟨some 18, .pu (.un .not (.t 17)), none⟩]) (.cond (.t 18) (.seq (.region [⟨some 19, .pu (.fa 8 (.t 2)), none⟩, ⟨none, .ef (.store 1 (.t 19) (.c (.b true))), none⟩]) (.seq (.region [⟨some 20, .ld true 9 (.t 2), none⟩, ⟨none, .ef (.store 9 (.t 4) (.t 20)), none⟩]) .ret)) .skip)) (.seq (.seq (.region [⟨some 21, .pu (.fa 6 (.t 2)), none⟩, ⟨some 22, .ld false 1 (.t 21), none⟩]) (.block 0 (.seq (.region [⟨some 43, .pu (.bin .eql (.t 22) (.c (.i .i64 0))), none⟩, ⟨some 42, .pu (.mov (.t 43)), none⟩]) (.cond (.t 42) (.region [⟨some 44, .pu (.mov (.t 1)), none⟩, ⟨some 45, .pu (.fa 0 (.t 2)), none⟩, ⟨some 46, .ld true 2 (.t 45), none⟩, ⟨some 47, .ef (.call 52 [(.t 46)]), none⟩, ⟨some 48, .ef (.call 51 [(.t 44), (.t 47)]), none⟩, ⟨some 49, .pu (.fa 5 (.t 2)), none⟩, ⟨none, .ef (.store 1 (.t 49) (.t 48)), none⟩, ⟨some 50, .pu (.fa 6 (.t 2)), none⟩, ⟨none, .ef (.store 1 (.t 50) (.c (.i .i64 1))), none⟩]) (.seq (.region [⟨some 52, .pu (.bin .eql (.t 22) (.c (.i .i64 1))), none⟩, ⟨some 51, .pu (.mov (.t 52)), none⟩]) (.cond (.t 51) (.draw [⟨some 53, .ld true 9 (.t 2), none⟩, ⟨some 54, .pu (.mov (.t 1)), none⟩, ⟨some 55, .pu (.fa 0 (.t 2)), none⟩, ⟨some 56, .ld true 2 (.t 55), none⟩, ⟨some 57, .pu (.fa 5 (.t 2)), none⟩, ⟨some 58, .ld false 1 (.t 57), none⟩, ⟨some 59, .ef (.call 54 [(.t 56), (.t 58)]), none⟩, ⟨some 60, .ef (.call 51 [(.t 54), (.t 59)]), none⟩, ⟨some 61, .ef (.call 53 [(.t 53), (.t 60)]), none⟩, ⟨none, .ef (.store 9 (.t 2) (.t 61)), none⟩] [(0, 6), (0, 7)]) (.seq (.region [⟨some 63, .pu (.bin .eql (.t 22) (.c (.i .i64 2))), none⟩, ⟨some 62, .pu (.mov (.t 63)), none⟩]) (.cond (.t 62) (.seq (.region [⟨some 64, .pu (.fa 6 (.t 2)), none⟩, ⟨none, .ef (.store 1 (.t 64) (.c (.i .i64 0))), none⟩]) (.seq (.draw [⟨some 65, .pu (.mov (.t 1)), none⟩, ⟨some 66, .pu (.fa 0 (.t 2)), none⟩, ⟨some 67, .ld true 2 (.t 66), none⟩, ⟨some 68, .ef (.call 52 [(.t 67)]), none⟩, ⟨some 69, .pu (.fa 5 (.t 2)), none⟩, ⟨some 70, .ld false 1 (.t 69), none⟩, ⟨some 71, .pu (.fa 5 (.t 2)), none⟩, ⟨some 72, .ld false 1 (.t 71), none⟩, ⟨some 73, .pu (.bin .add (.t 72) (.c (.i .u64 1))), none⟩, ⟨some 74, .ef (.call 55 [(.t 65), (.t 68), (.t 70), (.t 73)]), none⟩] [(5, 3), (7, 3)]) (.cond (.t 74) (.region [⟨some 75, .pu (.fa 6 (.t 2)), none⟩, ⟨none, .ef (.store 1 (.t 75) (.c (.i .i64 3))), none⟩]) .skip))) (.seq (.region [⟨some 77, .pu (.bin .eql (.t 22) (.c (.i .i64 6))), none⟩, ⟨some 76, .pu (.mov (.t 77)), none⟩]) (.cond (.t 76) (.seq (.draw [⟨some 78, .pu (.mov (.t 1)), none⟩, ⟨some 79, .pu (.fa 0 (.t 2)), none⟩, ⟨some 80, .ld true 2 (.t 79), none⟩, ⟨some 81, .pu (.fa 5 (.t 2)), none⟩, ⟨some 82, .ld false 1 (.t 81), none⟩, ⟨some 83, .ef (.call 54 [(.t 80), (.t 82)]), none⟩, ⟨some 84, .pu (.fa 5 (.t 2)), none⟩, ⟨some 85, .ld false 1 (.t 84), none⟩, ⟨some 86, .pu (.bin .add (.t 85) (.c (.i .u64 1))), none⟩, ⟨some 87, .ef (.call 56 [(.t 78), (.t 83), (.t 86)]), none⟩] [(7, 5)]) (.region [⟨some 88, .pu (.fa 6 (.t 2)), none⟩, ⟨none, .ef (.store 1 (.t 88) (.c (.i .i64 7))), none⟩])) (.seq (.region [⟨some 23, .pu (.fa 6 (.t 2)), none⟩, ⟨some 24, .ld false 1 (.t 23), none⟩, ⟨some 25, .pu (.bin .sub (.t 24) (.c (.i .i64 3))), none⟩, ⟨some 7, .pu (.mov (.t 25)), none⟩]) (.seq (.draw [⟨some 26, .pu (.mov (.t 1)), none⟩, ⟨some 27, .pu (.fa 0 (.t 2)), none⟩, ⟨some 28, .ld true 2 (.t 27), none⟩, ⟨some 29, .pu (.fa 5 (.t 2)), none⟩, ⟨some 30, .ld false 1 (.t 29), none⟩, ⟨some 31, .pu (.mov (.t 7)), none⟩, ⟨some 32, .ef (.call 25 [(.t 28), (.t 30), (.t 31)]), none⟩, ⟨some 33, .pu (.mov (.t 7)), none⟩, ⟨some 34, .pu (.fa 2 (.t 2)), none⟩, ⟨some 35, .pu (.iaa 1 3 (.t 34) (.t 33)), none⟩, ⟨some 36, .ld false 1 (.t 35), none⟩, ⟨some 37, .ef (.call 56 [(.t 26), (.t 32), (.t 36)]), none⟩] [(10, 6)]) (.region [⟨some 38, .pu (.fa 6 (.t 2)), none⟩, ⟨some 39, .ld false 1 (.t 38), none⟩, ⟨some 40, .pu (.bin .add (.t 39) (.c (.i .i64 1))), none⟩, ⟨some 41, .pu (.fa 6 (.t 2)), none⟩, ⟨none, .ef (.store 1 (.t 41) (.t 40)), none⟩]))))))))))))) c14_1))))
def ir14 : IFn := { ntmps := 90, results := rs14, body := c14 }
/-! cableway/send.Lone -/
def rs15 : List RV := [(.c 6 true 9)]
def c15 : IC := (.seq (.region [⟨some 3, .al (.box (.t 0)), none⟩, ⟨some 4, .al (.box (.t 1)), none⟩, ⟨some 6, .al (.zero [(.i .i64 0), (.i .i64 0), (.i .u64 0), (.i .u64 0), (.i .u64 0), (.i .u64 0), (.i .i64 0), (.b false), (.b false)]), none⟩]) (.seq (.region [⟨some 7, .ld true 2 (.t 3), none⟩, ⟨some 8, .ld true 3 (.t 4), none⟩, ⟨some 9, .pu (.mov (.t 2)), none⟩, ⟨some 10, .pu (.bld [(.i .i64 0), (.i .i64 0), (.i .u64 0), (.i .u64 0), (.i .u64 0), (.i .u64 0), (.i .i64 0), (.b false), (.b false)] [(0, 2, (.t 7)), (2, 3, (.t 8)), (5, 1, (.t 9)), (6, 1, (.c (.i .i64 1))), (7, 1, (.c (.b true)))]), none⟩, ⟨none, .ef (.store 9 (.t 6) (.t 10)), none⟩]) .ret))
def ir15 : IFn := { ntmps := 11, results := rs15, body := c15 }
/-! (cableway/send.Task).Done -/
def rs16 : List RV := [(.t 2), (.t 3)]
def c16 : IC := (.seq (.region [⟨some 1, .al (.box (.t 0)), none⟩, ⟨some 2, .pu (.mov (.c (.i .i64 0))), none⟩, ⟨some 3, .pu (.mov (.c (.b false))), none⟩]) (.seq (.block 0 (.seq (.region [⟨some 5, .pu (.fa 8 (.t 1)), none⟩, ⟨some 6, .ld false 1 (.t 5), none⟩, ⟨some 4, .pu (.mov (.t 6)), none⟩]) (.cond (.t 4) (.seq (.region [⟨some 2, .pu (.mov (.c (.i .i64 3))), none⟩, ⟨some 3, .pu (.mov (.c (.b true))), none⟩]) .ret) (.seq (.region [⟨some 8, .pu (.fa 6 (.t 1)), none⟩, ⟨some 9, .ld false 1 (.t 8), none⟩, ⟨some 10, .pu (.bin .eql (.t 9) (.c (.i .i64 7))), none⟩, ⟨some 7, .pu (.mov (.t 10)), none⟩]) (.cond (.t 7) (.seq (.region [⟨some 2, .pu (.mov (.c (.i .i64 0))), none⟩, ⟨some 3, .pu (.mov (.c (.b true))), none⟩]) .ret) .skip))))) (.seq (.region [⟨some 2, .pu (.mov (.c (.i .i64 0))), none⟩, ⟨some 3, .pu (.mov (.c (.b false))), none⟩]) .ret)))
def ir16 : IFn := { ntmps := 11, results := rs16, body := c16 }
/-! cableway/cablewaylaw07.awake -/
def rs17 : List RV := [(.t 0)]
def o17_1 : List IOp := [⟨some 53, .pu (.pick (.t 49) (.t 52) (.c (.b false))), none⟩, ⟨some 0, .pu (.mov (.t 53)), none⟩] ++ []
def o17_2 : List IOp := [⟨some 50, .pu (.mov (.t 1)), some (49, true)⟩, ⟨some 51, .ef (.call 24 [(.t 50), (.c (.i .i64 4))]), some (49, true)⟩, ⟨some 52, .pu (.bin .eql (.t 51) (.c (.i .u64 3))), some (49, true)⟩] ++ o17_1
def o17_3 : List IOp := [⟨some 48, .pu (.pick (.t 44) (.t 47) (.c (.b false))), none⟩, ⟨some 49, .pu (.mov (.t 48)), none⟩] ++ o17_2
def o17_4 : List IOp := [⟨some 45, .pu (.mov (.t 1)), some (44, true)⟩, ⟨some 46, .ef (.call 24 [(.t 45), (.c (.i .i64 2))]), some (44, true)⟩, ⟨some 47, .pu (.bin .eql (.t 46) (.c (.i .u64 1))), some (44, true)⟩] ++ o17_3
def o17_5 : List IOp := [⟨some 43, .pu (.pick (.t 39) (.t 42) (.c (.b false))), none⟩, ⟨some 44, .pu (.mov (.t 43)), none⟩] ++ o17_4
def o17_6 : List IOp := [⟨some 40, .pu (.mov (.t 1)), some (39, true)⟩, ⟨some 41, .ld true 2 (.t 2), some (39, true)⟩, ⟨some 42, .ef (.call 23 [(.t 40), (.t 41), (.c (.i .u64 0))]), some (39, true)⟩] ++ o17_5
def o17_7 : List IOp := [⟨some 38, .pu (.pick (.t 35) (.t 37) (.c (.b false))), none⟩, ⟨some 39, .pu (.mov (.t 38)), none⟩] ++ o17_6
def o17_8 : List IOp := [⟨some 36, .pu (.mov (.t 6)), some (35, true)⟩, ⟨some 37, .pu (.bin .eql (.t 36) (.c (.i .i64 0))), some (35, true)⟩] ++ o17_7
def o17_9 : List IOp := [⟨some 34, .pu (.pick (.t 32) (.t 33) (.c (.b false))), none⟩, ⟨some 35, .pu (.mov (.t 34)), none⟩] ++ o17_8
def o17_10 : List IOp := [⟨some 33, .pu (.mov (.t 7)), some (32, true)⟩] ++ o17_9
def o17_11 : List IOp := [⟨some 31, .pu (.pick (.t 28) (.t 30) (.c (.b false))), none⟩, ⟨some 32, .pu (.mov (.t 31)), none⟩] ++ o17_10
def o17_12 : List IOp := [⟨some 29, .pu (.mov (.t 5)), some (28, true)⟩, ⟨some 30, .pu (.bin .eql (.t 29) (.c (.i .i64 7))), some (28, true)⟩] ++ o17_11
def o17_13 : List IOp := [⟨some 26, .pu (.mov (.t 3)), none⟩, ⟨some 27, .pu (.bin .eql (.t 26) (.c (.i .i64 0))), none⟩, ⟨some 28, .pu (.mov (.t 27)), none⟩] ++ o17_12
def c17 : IC := (.seq (.region [⟨some 0, .pu (.mov (.c (.b false))), none⟩]) (.seq (.region [⟨some 8, .ef (.call 12 [(.c (.i .i64 9))]), none⟩, ⟨some 1, .pu (.mov (.t 8)), none⟩]) (.seq (.region [⟨some 9, .pu (.bld [(.i .i64 0), (.i .i64 0)] [(1, 1, (.c (.i .i64 2)))]), none⟩, ⟨some 2, .al (.zero [(.i .i64 0), (.i .i64 0)]), none⟩, ⟨none, .ef (.store 2 (.t 2) (.t 9)), none⟩]) (.seq (.region [⟨some 10, .pu (.mov (.t 1)), none⟩, ⟨some 11, .ld true 2 (.t 2), none⟩, ⟨some 12, .ef (.call 20 [(.t 10), (.t 11)]), none⟩, ⟨some 3, .pu (.mov (.t 12)), none⟩]) (.seq (.region [⟨some 14, .pu (.mov (.t 1)), none⟩, ⟨some 15, .ld true 2 (.t 2), none⟩, ⟨some 16, .pu (.bld [(.i .u64 0), (.i .u64 0), (.i .u64 0)] [(0, 1, (.c (.i .u64 1))), (1, 1, (.c (.i .u64 2))), (2, 1, (.c (.i .u64 3)))]), none⟩, ⟨some 17, .ef (.call 13 [(.t 15), (.t 16)]), none⟩, ⟨some 18, .ef (.call 21 [(.t 14), (.t 17)]), none⟩, ⟨some 13, .pu (.mov (.t 18)), none⟩, ⟨some 19, .pu (.ext (.t 13) 0), none⟩, ⟨some 20, .pu (.ext (.t 13) 1), none⟩, ⟨some 4, .al (.zero [(.i .i64 0), (.i .i64 0), (.i .u64 0), (.i .u64 0), (.i .u64 0), (.i .u64 0), (.i .i64 0), (.b false), (.b false)]), none⟩, ⟨none, .ef (.store 9 (.t 4) (.t 19)), none⟩, ⟨some 5, .pu (.mov (.t 20)), none⟩]) (.seq (.region [⟨some 22, .ld true 9 (.t 4), none⟩, ⟨some 23, .ef (.call 16 [(.t 22)]), none⟩, ⟨some 21, .pu (.mov (.t 23)), none⟩, ⟨some 24, .pu (.ext (.t 21) 0), none⟩, ⟨some 25, .pu (.ext (.t 21) 1), none⟩, ⟨some 6, .pu (.mov (.t 24)), none⟩, ⟨some 7, .pu (.mov (.t 25)), none⟩]) (.seq (.region o17_13) .ret)))))))
def ir17 : IFn := { ntmps := 54, results := rs17, body := c17 }
/-! (cableway/send.Task).Claimed -/
def rs18 : List RV := [(.t 2)]
def o18_1 : List IOp := [⟨some 10, .pu (.pick (.t 6) (.t 9) (.c (.b false))), none⟩, ⟨some 2, .pu (.mov (.t 10)), none⟩] ++ []
def o18_2 : List IOp := [⟨some 7, .pu (.fa 6 (.t 1)), some (6, true)⟩, ⟨some 8, .ld false 1 (.t 7), some (6, true)⟩, ⟨some 9, .pu (.bin .geq (.t 8) (.c (.i .i64 3))), some (6, true)⟩] ++ o18_1
def o18_3 : List IOp := [⟨some 3, .pu (.fa 8 (.t 1)), none⟩, ⟨some 4, .ld false 1 (.t 3), none⟩, ⟨some 5, .pu (.un .not (.t 4)), none⟩, ⟨some 6, .pu (.mov (.t 5)), none⟩] ++ o18_2
def c18 : IC := (.seq (.region [⟨some 1, .al (.box (.t 0)), none⟩, ⟨some 2, .pu (.mov (.c (.b false))), none⟩]) (.seq (.region o18_3) .ret))
def ir18 : IFn := { ntmps := 11, results := rs18, body := c18 }
/-! cableway/ring.Cells -/
def rs19 : List RV := [(.t 2)]
def c19 : IC := (.seq (.region [⟨some 2, .pu (.mov (.c (.i .i64 0))), none⟩]) (.seq (.region [⟨some 3, .pu (.mov (.t 0)), none⟩, ⟨some 4, .pu (.max (.t 3) [(.c (.i .i64 0))]), none⟩, ⟨some 5, .pu (.min (.t 4) [(.c (.i .i64 64))]), none⟩, ⟨some 6, .pu (.bin .mul (.t 5) (.c (.i .i64 4))), none⟩, ⟨some 7, .pu (.bin .add (.c (.i .i64 1)) (.t 6)), none⟩, ⟨some 2, .pu (.mov (.t 7)), none⟩]) .ret))
def ir19 : IFn := { ntmps := 8, results := rs19, body := c19 }
/-! cableway/ring.Init -/
def rs20 : List RV := [(.t 4)]
def c20_2 : IC := (.seq (.region [⟨some 4, .pu (.mov (.c (.i .i64 0))), none⟩]) .ret)
def c20_4 : IC := (.region [⟨some 51, .pu (.bin .add (.t 27) (.c (.i .i64 1))), none⟩, ⟨some 27, .pu (.mov (.t 51)), none⟩])
def c20_5 : IC := (.seq (.region [⟨some 39, .pu (.bin .lss (.t 38) (.c (.i .i64 3))), none⟩]) (.seq (.cond (.t 39) .skip (.exit 2)) (.seq (.block 3 (.seq (.region [⟨some 40, .pu (.mov (.t 38)), none⟩, ⟨some 6, .pu (.mov (.t 40)), none⟩]) (.region [⟨some 41, .pu (.mov (.t 0)), none⟩, ⟨some 42, .ld true 2 (.t 3), none⟩, ⟨some 43, .pu (.mov (.t 5)), none⟩, ⟨some 44, .pu (.cvi .u64 (.t 43)), none⟩, ⟨some 45, .ef (.call 58 [(.t 42), (.t 44)]), none⟩, ⟨some 46, .pu (.bin .add (.t 45) (.c (.i .i64 1))), none⟩, ⟨some 47, .pu (.mov (.t 6)), none⟩, ⟨some 48, .pu (.bin .add (.t 46) (.t 47)), none⟩, ⟨some 49, .ef (.call 56 [(.t 41), (.t 48), (.c (.i .u64 0))]), none⟩]))) (.region [⟨some 50, .pu (.bin .add (.t 38) (.c (.i .i64 1))), none⟩, ⟨some 38, .pu (.mov (.t 50)), none⟩]))))
def c20_3 : IC := (.seq (.region [⟨some 28, .pu (.bin .lss (.t 27) (.t 26)), none⟩]) (.seq (.cond (.t 28) .skip (.exit 0)) (.seq (.block 1 (.seq (.region [⟨some 29, .pu (.mov (.t 27)), none⟩, ⟨some 5, .pu (.mov (.t 29)), none⟩]) (.seq (.region [⟨some 30, .pu (.mov (.t 0)), none⟩, ⟨some 31, .ld true 2 (.t 3), none⟩, ⟨some 32, .pu (.mov (.t 5)), none⟩, ⟨some 33, .pu (.cvi .u64 (.t 32)), none⟩, ⟨some 34, .ef (.call 58 [(.t 31), (.t 33)]), none⟩, ⟨some 35, .pu (.mov (.t 5)), none⟩, ⟨some 36, .pu (.cvi .u64 (.t 35)), none⟩, ⟨some 37, .ef (.call 56 [(.t 30), (.t 34), (.t 36)]), none⟩]) (.seq (.region [⟨some 38, .pu (.mov (.c (.i .i64 0))), none⟩]) (.block 2 (.loop c20_5)))))) c20_4)))
def c20_1 : IC := (.seq (.region [⟨some 21, .pu (.mov (.t 0)), none⟩, ⟨some 22, .pu (.fa 0 (.t 3)), none⟩, ⟨some 23, .ld false 1 (.t 22), none⟩, ⟨some 24, .ef (.call 56 [(.t 21), (.t 23), (.c (.i .u64 0))]), none⟩]) (.seq (.seq (.region [⟨some 25, .pu (.fa 1 (.t 3)), none⟩, ⟨some 26, .ld false 1 (.t 25), none⟩, ⟨some 27, .pu (.mov (.c (.i .i64 0))), none⟩]) (.block 0 (.loop c20_3))) c20_2))
def c20_6 : IC := (.cond (.t 20) (.seq (.region [⟨some 4, .pu (.mov (.c (.i .i64 1))), none⟩]) .ret) .skip)
def o20_7 : List IOp := [⟨some 20, .pu (.pick (.t 10) (.c (.b true)) (.t 19)), none⟩] ++ []
def o20_8 : List IOp := [⟨some 11, .pu (.fa 0 (.t 3)), some (10, false)⟩, ⟨some 12, .ld false 1 (.t 11), some (10, false)⟩, ⟨some 13, .pu (.fa 1 (.t 3)), some (10, false)⟩, ⟨some 14, .ld false 1 (.t 13), some (10, false)⟩, ⟨some 15, .ef (.call 19 [(.t 14)]), some (10, false)⟩, ⟨some 16, .pu (.bin .add (.t 12) (.t 15)), some (10, false)⟩, ⟨some 17, .pu (.mov (.t 0)), some (10, false)⟩, ⟨some 18, .ef (.call 57 [(.t 17)]), some (10, false)⟩, ⟨some 19, .pu (.bin .gtr (.t 16) (.t 18)), some (10, false)⟩] ++ o20_7
def o20_9 : List IOp := [⟨some 7, .ld true 2 (.t 3), none⟩, ⟨some 8, .ef (.call 50 [(.t 7)]), none⟩, ⟨some 9, .pu (.un .not (.t 8)), none⟩, ⟨some 10, .pu (.mov (.t 9)), none⟩] ++ o20_8
def c20 : IC := (.seq (.region [⟨some 3, .al (.box (.t 1)), none⟩, ⟨some 4, .pu (.mov (.c (.i .i64 0))), none⟩]) (.seq (.seq (.draw o20_9 [(5, 8), (5, 11)]) c20_6) c20_1))
def ir20 : IFn := { ntmps := 52, results := rs20, body := c20 }
/-! cableway/cablewaylaw07.Run -/
def rs21 : List RV := [(.c 4 true 9), (.t 5)]
def c21_1 : IC := (.seq (.region [⟨some 31, .ld true 9 (.t 4), none⟩, ⟨some 32, .pu (.mov (.t 5)), none⟩, ⟨none, .ef (.store 9 (.t 4) (.t 31)), none⟩, ⟨some 5, .pu (.mov (.t 32)), none⟩]) .ret)
def c21_2 : IC := (.seq (.seq (.region [⟨some 9, .pu (.mov (.t 5)), none⟩, ⟨some 10, .pu (.bin .lss (.t 9) (.c (.i .i64 40))), none⟩]) (.cond (.t 10) .skip (.exit 0))) (.seq (.block 1 (.seq (.seq (.region [⟨some 14, .ld true 9 (.t 4), none⟩, ⟨some 15, .ef (.call 16 [(.t 14)]), none⟩, ⟨some 13, .pu (.mov (.t 15)), none⟩, ⟨some 16, .pu (.ext (.t 13) 0), none⟩, ⟨some 17, .pu (.ext (.t 13) 1), none⟩, ⟨some 6, .pu (.mov (.t 16)), none⟩, ⟨some 7, .pu (.mov (.t 17)), none⟩]) (.seq (.region [⟨some 18, .pu (.mov (.t 7)), none⟩]) (.cond (.t 18) (.seq (.region [⟨some 19, .ld true 9 (.t 4), none⟩, ⟨some 20, .pu (.mov (.t 5)), none⟩, ⟨none, .ef (.store 9 (.t 4) (.t 19)), none⟩, ⟨some 5, .pu (.mov (.t 20)), none⟩]) .ret) .skip))) (.seq (.region [⟨some 21, .pu (.mov (.t 0)), none⟩, ⟨some 22, .ef (.call 27 [(.t 21)]), none⟩]) (.seq (.region [⟨some 23, .ld true 9 (.t 4), none⟩, ⟨some 24, .pu (.mov (.t 0)), none⟩, ⟨some 25, .ef (.call 14 [(.t 23), (.t 24)]), none⟩, ⟨none, .ef (.store 9 (.t 4) (.t 25)), none⟩]) (.seq (.region [⟨some 26, .pu (.mov (.t 0)), none⟩, ⟨some 27, .ef (.call 31 [(.t 26)]), none⟩, ⟨some 28, .pu (.lens (.t 27)), none⟩, ⟨some 29, .pu (.bin .neq (.t 28) (.c (.i .i64 1))), none⟩]) (.cond (.t 29) (.seq (.region [⟨some 30, .ld true 9 (.t 4), none⟩, ⟨none, .ef (.store 9 (.t 4) (.t 30)), none⟩, ⟨some 5, .pu (.mov (.c (.i .i64 (-1)))), none⟩]) .ret) .skip)))))) (.region [⟨some 11, .pu (.mov (.t 5)), none⟩, ⟨some 12, .pu (.bin .add (.t 11) (.c (.i .i64 1))), none⟩, ⟨some 5, .pu (.mov (.t 12)), none⟩])))
def c21 : IC := (.seq (.region [⟨some 3, .al (.box (.t 1)), none⟩, ⟨some 4, .al (.zero [(.i .i64 0), (.i .i64 0), (.i .u64 0), (.i .u64 0), (.i .u64 0), (.i .u64 0), (.i .i64 0), (.b false), (.b false)]), none⟩, ⟨some 5, .pu (.mov (.c (.i .i64 0))), none⟩]) (.seq (.seq (.region [⟨some 8, .ld true 9 (.t 3), none⟩, ⟨none, .ef (.store 9 (.t 4) (.t 8)), none⟩]) (.block 0 (.loop c21_2))) c21_1))
def ir21 : IFn := { ntmps := 33, results := rs21, body := c21 }
/-! (cableway/send.Task).Turn -/
def rs22 : List RV := [(.t 2)]
def c22 : IC := (.seq (.region [⟨some 1, .al (.box (.t 0)), none⟩, ⟨some 2, .pu (.mov (.c (.i .u64 0))), none⟩]) (.seq (.region [⟨some 3, .pu (.fa 5 (.t 1)), none⟩, ⟨some 4, .ld false 1 (.t 3), none⟩, ⟨some 2, .pu (.mov (.t 4)), none⟩]) .ret))
def ir22 : IFn := { ntmps := 5, results := rs22, body := c22 }
/-! cableway/ring.Ready -/
def rs23 : List RV := [(.t 6)]
def o23_1 : List IOp := [⟨some 18, .pu (.pick (.t 9) (.t 17) (.c (.b false))), none⟩, ⟨some 6, .pu (.mov (.t 18)), none⟩] ++ []
def o23_2 : List IOp := [⟨some 10, .pu (.mov (.t 0)), some (9, true)⟩, ⟨some 11, .ld true 2 (.t 4), some (9, true)⟩, ⟨some 12, .pu (.mov (.t 2)), some (9, true)⟩, ⟨some 13, .ef (.call 58 [(.t 11), (.t 12)]), some (9, true)⟩, ⟨some 14, .ef (.call 24 [(.t 10), (.t 13)]), some (9, true)⟩, ⟨some 15, .pu (.mov (.t 2)), some (9, true)⟩, ⟨some 16, .pu (.bin .add (.t 15) (.c (.i .u64 1))), some (9, true)⟩, ⟨some 17, .pu (.bin .eql (.t 14) (.t 16)), some (9, true)⟩] ++ o23_1
def o23_3 : List IOp := [⟨some 7, .ld true 2 (.t 4), none⟩, ⟨some 8, .ef (.call 50 [(.t 7)]), none⟩, ⟨some 9, .pu (.mov (.t 8)), none⟩] ++ o23_2
def c23 : IC := (.seq (.region [⟨some 4, .al (.box (.t 1)), none⟩, ⟨some 6, .pu (.mov (.c (.b false))), none⟩]) (.seq (.region o23_3) .ret))
def ir23 : IFn := { ntmps := 19, results := rs23, body := c23 }
/-! (*cableway/arena.Arena).Look -/
def rs24 : List RV := [(.t 4)]
def c24_1 : IC := (.seq (.region [⟨some 13, .pu (.mov (.t 0)), none⟩, ⟨some 14, .pu (.nilc (.t 13)), none⟩, ⟨some 15, .pu (.fa 0 (.t 14)), none⟩, ⟨some 16, .ld false 1 (.t 15), none⟩, ⟨some 17, .pu (.mov (.t 1)), none⟩, ⟨some 18, .pu (.ia 1 (.t 16) (.t 17)), none⟩, ⟨some 19, .ld false 1 (.t 18), none⟩, ⟨some 4, .pu (.mov (.t 19)), none⟩]) .ret)
def c24_2 : IC := (.cond (.t 12) (.seq (.region [⟨some 4, .pu (.mov (.c (.i .u64 0))), none⟩]) .ret) .skip)
def o24_3 : List IOp := [⟨some 12, .pu (.pick (.t 7) (.c (.b true)) (.t 11)), none⟩] ++ []
def o24_4 : List IOp := [⟨some 8, .pu (.mov (.t 1)), some (7, false)⟩, ⟨some 9, .pu (.mov (.t 0)), some (7, false)⟩, ⟨some 10, .ef (.call 57 [(.t 9)]), some (7, false)⟩, ⟨some 11, .pu (.bin .geq (.t 8) (.t 10)), some (7, false)⟩] ++ o24_3
def o24_5 : List IOp := [⟨some 5, .pu (.mov (.t 1)), none⟩, ⟨some 6, .pu (.bin .lss (.t 5) (.c (.i .i64 0))), none⟩, ⟨some 7, .pu (.mov (.t 6)), none⟩] ++ o24_4
def c24 : IC := (.seq (.region [⟨some 4, .pu (.mov (.c (.i .u64 0))), none⟩]) (.seq (.seq (.region o24_5) c24_2) c24_1))
def ir24 : IFn := { ntmps := 20, results := rs24, body := c24 }
/-! cableway/ring.Data -/
def rs25 : List RV := [(.t 6)]
def c25_1 : IC := (.seq (.region [⟨some 18, .ld true 2 (.t 3), none⟩, ⟨some 19, .pu (.mov (.t 1)), none⟩, ⟨some 20, .ef (.call 58 [(.t 18), (.t 19)]), none⟩, ⟨some 21, .pu (.bin .add (.t 20) (.c (.i .i64 1))), none⟩, ⟨some 22, .pu (.mov (.t 2)), none⟩, ⟨some 23, .pu (.bin .add (.t 21) (.t 22)), none⟩, ⟨some 6, .pu (.mov (.t 23)), none⟩]) .ret)
def c25_2 : IC := (.cond (.t 17) (.seq (.region [⟨some 6, .pu (.mov (.c (.i .i64 (-1)))), none⟩]) .ret) .skip)
def o25_3 : List IOp := [⟨some 17, .pu (.pick (.t 14) (.c (.b true)) (.t 16)), none⟩] ++ []
def o25_4 : List IOp := [⟨some 15, .pu (.mov (.t 2)), some (14, false)⟩, ⟨some 16, .pu (.bin .geq (.t 15) (.c (.i .i64 3))), some (14, false)⟩] ++ o25_3
def o25_5 : List IOp := [⟨some 13, .pu (.pick (.t 10) (.c (.b true)) (.t 12)), none⟩, ⟨some 14, .pu (.mov (.t 13)), none⟩] ++ o25_4
def o25_6 : List IOp := [⟨some 11, .pu (.mov (.t 2)), some (10, false)⟩, ⟨some 12, .pu (.bin .lss (.t 11) (.c (.i .i64 0))), some (10, false)⟩] ++ o25_5
def o25_7 : List IOp := [⟨some 7, .ld true 2 (.t 3), none⟩, ⟨some 8, .ef (.call 50 [(.t 7)]), none⟩, ⟨some 9, .pu (.un .not (.t 8)), none⟩, ⟨some 10, .pu (.mov (.t 9)), none⟩] ++ o25_6
def c25 : IC := (.seq (.region [⟨some 3, .al (.box (.t 0)), none⟩, ⟨some 6, .pu (.mov (.c (.i .i64 0))), none⟩]) (.seq (.seq (.region o25_7) c25_2) c25_1))
def ir25 : IFn := { ntmps := 24, results := rs25, body := c25 }
/-! (*cableway/arena.Arena).Begin -/
def rs27 : List RV := []
def c27 : IC := (.seq (.region [⟨some 2, .pu (.mov (.t 0)), none⟩, ⟨some 3, .pu (.eqz true .p (.t 2) (.c (.p none))), none⟩]) (.cond (.t 3) (.region [⟨some 4, .pu (.mov (.t 0)), none⟩, ⟨some 5, .pu (.nilc (.t 4)), none⟩, ⟨some 6, .pu (.fa 1 (.t 5)), none⟩, ⟨none, .ef (.store 1 (.t 6) (.c .nsl)), none⟩]) .skip))
def ir27 : IFn := { ntmps := 7, results := rs27, body := c27 }
/-! (*cableway/arena.Arena).Touched -/
def rs31 : List RV := [(.t 2)]
def c31 : IC := (.seq (.region [⟨some 2, .pu (.mov (.c .nsl)), none⟩]) (.seq (.seq (.region [⟨some 3, .pu (.mov (.t 0)), none⟩, ⟨some 4, .pu (.eqz false .p (.t 3) (.c (.p none))), none⟩]) (.cond (.t 4) (.seq (.region [⟨some 2, .pu (.mov (.c .nsl)), none⟩]) .ret) .skip)) (.seq (.region [⟨some 5, .pu (.mov (.t 0)), none⟩, ⟨some 6, .pu (.nilc (.t 5)), none⟩, ⟨some 7, .pu (.fa 1 (.t 6)), none⟩, ⟨some 8, .ld false 1 (.t 7), none⟩, ⟨some 9, .ef (.call 59 [(.t 8)]), none⟩, ⟨some 2, .pu (.mov (.t 9)), none⟩]) .ret)))
def ir31 : IFn := { ntmps := 10, results := rs31, body := c31 }
/-! cableway/ring.May -/
def rs50 : List RV := [(.t 2)]
def o50_1 : List IOp := [⟨some 31, .pu (.pick (.t 24) (.t 30) (.c (.b false))), none⟩, ⟨some 2, .pu (.mov (.t 31)), none⟩] ++ []
def o50_2 : List IOp := [⟨some 25, .pu (.fa 0 (.t 1)), some (24, true)⟩, ⟨some 26, .ld false 1 (.t 25), some (24, true)⟩, ⟨some 27, .pu (.mov (.t 3)), some (24, true)⟩, ⟨some 28, .ef (.call 19 [(.t 27)]), some (24, true)⟩, ⟨some 29, .pu (.bin .sub (.c (.i .i64 16384)) (.t 28)), some (24, true)⟩, ⟨some 30, .pu (.bin .leq (.t 26) (.t 29)), some (24, true)⟩] ++ o50_1
def o50_3 : List IOp := [⟨some 23, .pu (.pick (.t 19) (.t 22) (.c (.b false))), none⟩, ⟨some 24, .pu (.mov (.t 23)), none⟩] ++ o50_2
def o50_4 : List IOp := [⟨some 20, .pu (.fa 0 (.t 1)), some (19, true)⟩, ⟨some 21, .ld false 1 (.t 20), some (19, true)⟩, ⟨some 22, .pu (.bin .geq (.t 21) (.c (.i .i64 0))), some (19, true)⟩] ++ o50_3
def o50_5 : List IOp := [⟨some 18, .pu (.pick (.t 12) (.t 17) (.c (.b false))), none⟩, ⟨some 19, .pu (.mov (.t 18)), none⟩] ++ o50_4
def o50_6 : List IOp := [⟨some 13, .pu (.mov (.t 3)), some (12, true)⟩, ⟨some 14, .pu (.mov (.t 3)), some (12, true)⟩, ⟨some 15, .pu (.bin .sub (.t 14) (.c (.i .i64 1))), some (12, true)⟩, ⟨some 16, .pu (.bin .and (.t 13) (.t 15)), some (12, true)⟩, ⟨some 17, .pu (.bin .eql (.t 16) (.c (.i .i64 0))), some (12, true)⟩] ++ o50_5
def o50_7 : List IOp := [⟨some 11, .pu (.pick (.t 8) (.t 10) (.c (.b false))), none⟩, ⟨some 12, .pu (.mov (.t 11)), none⟩] ++ o50_6
def o50_8 : List IOp := [⟨some 9, .pu (.mov (.t 3)), some (8, true)⟩, ⟨some 10, .pu (.bin .leq (.t 9) (.c (.i .i64 64))), some (8, true)⟩] ++ o50_7
def o50_9 : List IOp := [⟨some 6, .pu (.mov (.t 3)), none⟩, ⟨some 7, .pu (.bin .geq (.t 6) (.c (.i .i64 2))), none⟩, ⟨some 8, .pu (.mov (.t 7)), none⟩] ++ o50_8
def c50 : IC := (.seq (.region [⟨some 1, .al (.box (.t 0)), none⟩, ⟨some 2, .pu (.mov (.c (.b false))), none⟩]) (.seq (.region [⟨some 4, .pu (.fa 1 (.t 1)), none⟩, ⟨some 5, .ld false 1 (.t 4), none⟩, ⟨some 3, .pu (.mov (.t 5)), none⟩]) (.seq (.draw o50_9 [(20, 22)]) .ret)))
def ir50 : IFn := { ntmps := 32, results := rs50, body := c50 }
/-! (*cableway/arena.Arena).Read -/
def rs51 : List RV := [(.t 4)]
def c51 : IC := (.seq (.region [⟨some 4, .pu (.mov (.c (.i .u64 0))), none⟩]) (.seq (.seq (.region [⟨some 5, .pu (.mov (.t 0)), none⟩, ⟨some 6, .pu (.mov (.t 1)), none⟩, ⟨some 7, .ef (.call 79 [(.t 5), (.t 6)]), none⟩, ⟨some 8, .pu (.un .not (.t 7)), none⟩]) (.cond (.t 8) (.seq (.region [⟨some 4, .pu (.mov (.c (.i .u64 0))), none⟩]) .ret) .skip)) (.seq (.region [⟨some 9, .pu (.mov (.t 0)), none⟩, ⟨some 10, .pu (.nilc (.t 9)), none⟩, ⟨some 11, .pu (.fa 0 (.t 10)), none⟩, ⟨some 12, .ld false 1 (.t 11), none⟩, ⟨some 13, .pu (.mov (.t 1)), none⟩, ⟨some 14, .pu (.ia 1 (.t 12) (.t 13)), none⟩, ⟨some 15, .ld false 1 (.t 14), none⟩, ⟨some 4, .pu (.mov (.t 15)), none⟩]) .ret)))
def ir51 : IFn := { ntmps := 16, results := rs51, body := c51 }
/-! cableway/ring.Tail -/
def rs52 : List RV := [(.t 2)]
def c52 : IC := (.seq (.region [⟨some 1, .al (.box (.t 0)), none⟩, ⟨some 2, .pu (.mov (.c (.i .i64 0))), none⟩]) (.seq (.seq (.region [⟨some 3, .ld true 2 (.t 1), none⟩, ⟨some 4, .ef (.call 50 [(.t 3)]), none⟩, ⟨some 5, .pu (.un .not (.t 4)), none⟩]) (.cond (.t 5) (.seq (.region [⟨some 2, .pu (.mov (.c (.i .i64 (-1)))), none⟩]) .ret) .skip)) (.seq (.region [⟨some 6, .pu (.fa 0 (.t 1)), none⟩, ⟨some 7, .ld false 1 (.t 6), none⟩, ⟨some 2, .pu (.mov (.t 7)), none⟩]) .ret)))
def ir52 : IFn := { ntmps := 8, results := rs52, body := c52 }
/-! (cableway/send.Task).stands -/
def rs53 : List RV := [(.c 4 true 9)]
def c53_1 : IC := (.seq (.region [⟨some 32, .ld true 9 (.t 2), none⟩, ⟨none, .ef (.store 9 (.t 4) (.t 32)), none⟩]) .ret)
def c53_3 : IC := (.cond (.t 22) (.region [⟨some 31, .pu (.fa 8 (.t 2)), none⟩, ⟨none, .ef (.store 1 (.t 31) (.c (.b true))), none⟩]) (.region [⟨some 5, .pu (.fa 6 (.t 2)), none⟩, ⟨none, .ef (.store 1 (.t 5) (.c (.i .i64 0))), none⟩]))
def o53_4 : List IOp := [⟨some 30, .pu (.pick (.t 27) (.c (.b true)) (.t 29)), none⟩, ⟨some 22, .pu (.mov (.t 30)), none⟩] ++ []
def o53_5 : List IOp := [⟨some 28, .pu (.fa 7 (.t 2)), some (27, false)⟩, ⟨some 29, .ld false 1 (.t 28), some (27, false)⟩] ++ o53_4
def o53_6 : List IOp := [⟨some 23, .pu (.mov (.t 1)), none⟩, ⟨some 24, .pu (.fa 5 (.t 2)), none⟩, ⟨some 25, .ld false 1 (.t 24), none⟩, ⟨some 26, .pu (.bin .lss (.t 23) (.t 25)), none⟩, ⟨some 27, .pu (.mov (.t 26)), none⟩] ++ o53_5
def c53_2 : IC := (.cond (.t 6) (.region [⟨some 15, .pu (.fa 6 (.t 2)), none⟩, ⟨none, .ef (.store 1 (.t 15) (.c (.i .i64 3))), none⟩]) (.seq (.region [⟨some 17, .pu (.mov (.t 1)), none⟩, ⟨some 18, .pu (.fa 5 (.t 2)), none⟩, ⟨some 19, .ld false 1 (.t 18), none⟩, ⟨some 20, .pu (.bin .eql (.t 17) (.t 19)), none⟩, ⟨some 16, .pu (.mov (.t 20)), none⟩]) (.cond (.t 16) (.region [⟨some 21, .pu (.fa 6 (.t 2)), none⟩, ⟨none, .ef (.store 1 (.t 21) (.c (.i .i64 2))), none⟩]) (.seq (.region o53_6) c53_3))))
def o53_8 : List IOp := [⟨some 14, .pu (.pick (.t 11) (.t 13) (.c (.b false))), none⟩, ⟨some 6, .pu (.mov (.t 14)), none⟩] ++ []
def o53_9 : List IOp := [⟨some 12, .pu (.fa 7 (.t 2)), some (11, true)⟩, ⟨some 13, .ld false 1 (.t 12), some (11, true)⟩] ++ o53_8
def o53_10 : List IOp := [⟨some 7, .pu (.mov (.t 1)), none⟩, ⟨some 8, .pu (.fa 5 (.t 2)), none⟩, ⟨some 9, .ld false 1 (.t 8), none⟩, ⟨some 10, .pu (.bin .eql (.t 7) (.t 9)), none⟩, ⟨some 11, .pu (.mov (.t 10)), none⟩] ++ o53_9
def c53 : IC := (.seq (.region [⟨some 2, .al (.box (.t 0)), none⟩, ⟨some 4, .al (.zero [(.i .i64 0), (.i .i64 0), (.i .u64 0), (.i .u64 0), (.i .u64 0), (.i .u64 0), (.i .i64 0), (.b false), (.b false)]), none⟩]) (.seq (.block 0 (.seq (.region o53_10) c53_2)) c53_1))
def ir53 : IFn := { ntmps := 33, results := rs53, body := c53 }
/-! cableway/ring.Stand -/
def rs54 : List RV := [(.t 4)]
def c54 : IC := (.seq (.region [⟨some 2, .al (.box (.t 0)), none⟩, ⟨some 4, .pu (.mov (.c (.i .i64 0))), none⟩]) (.seq (.seq (.region [⟨some 5, .ld true 2 (.t 2), none⟩, ⟨some 6, .ef (.call 50 [(.t 5)]), none⟩, ⟨some 7, .pu (.un .not (.t 6)), none⟩]) (.cond (.t 7) (.seq (.region [⟨some 4, .pu (.mov (.c (.i .i64 (-1)))), none⟩]) .ret) .skip)) (.seq (.region [⟨some 8, .ld true 2 (.t 2), none⟩, ⟨some 9, .pu (.mov (.t 1)), none⟩, ⟨some 10, .ef (.call 58 [(.t 8), (.t 9)]), none⟩, ⟨some 4, .pu (.mov (.t 10)), none⟩]) .ret)))
def ir54 : IFn := { ntmps := 11, results := rs54, body := c54 }
/-! (*cableway/arena.Arena).Swap -/
def rs55 : List RV := [(.t 8)]
def c55_1 : IC := (.seq (.region [⟨some 24, .pu (.mov (.t 0)), none⟩, ⟨some 25, .pu (.nilc (.t 24)), none⟩, ⟨some 26, .pu (.fa 0 (.t 25)), none⟩, ⟨some 27, .ld false 1 (.t 26), none⟩, ⟨some 28, .pu (.mov (.t 1)), none⟩, ⟨some 29, .pu (.mov (.t 3)), none⟩, ⟨some 30, .pu (.ia 1 (.t 27) (.t 28)), none⟩, ⟨none, .ef (.store 1 (.t 30) (.t 29)), none⟩]) (.seq (.region [⟨some 8, .pu (.mov (.c (.b true))), none⟩]) .ret))
def c55_2 : IC := (.cond (.t 23) (.seq (.region [⟨some 8, .pu (.mov (.c (.b false))), none⟩]) .ret) .skip)
def o55_3 : List IOp := [⟨some 23, .pu (.pick (.t 13) (.c (.b true)) (.t 22)), none⟩] ++ []
def o55_4 : List IOp := [⟨some 14, .pu (.mov (.t 0)), some (13, false)⟩, ⟨some 15, .pu (.nilc (.t 14)), some (13, false)⟩, ⟨some 16, .pu (.fa 0 (.t 15)), some (13, false)⟩, ⟨some 17, .ld false 1 (.t 16), some (13, false)⟩, ⟨some 18, .pu (.mov (.t 1)), some (13, false)⟩, ⟨some 19, .pu (.ia 1 (.t 17) (.t 18)), some (13, false)⟩, ⟨some 20, .ld false 1 (.t 19), some (13, false)⟩, ⟨some 21, .pu (.mov (.t 2)), some (13, false)⟩, ⟨some 22, .pu (.bin .neq (.t 20) (.t 21)), some (13, false)⟩] ++ o55_3
def o55_5 : List IOp := [⟨some 9, .pu (.mov (.t 0)), none⟩, ⟨some 10, .pu (.mov (.t 1)), none⟩, ⟨some 11, .ef (.call 79 [(.t 9), (.t 10)]), none⟩, ⟨some 12, .pu (.un .not (.t 11)), none⟩, ⟨some 13, .pu (.mov (.t 12)), none⟩] ++ o55_4
def c55 : IC := (.seq (.region [⟨some 8, .pu (.mov (.c (.b false))), none⟩]) (.seq (.seq (.region o55_5) c55_2) c55_1))
def ir55 : IFn := { ntmps := 31, results := rs55, body := c55 }
/-! (*cableway/arena.Arena).Write -/
def rs56 : List RV := []
def c56 : IC := (.seq (.region [⟨some 6, .pu (.mov (.t 0)), none⟩, ⟨some 7, .pu (.mov (.t 1)), none⟩, ⟨some 8, .ef (.call 79 [(.t 6), (.t 7)]), none⟩]) (.cond (.t 8) (.region [⟨some 9, .pu (.mov (.t 0)), none⟩, ⟨some 10, .pu (.nilc (.t 9)), none⟩, ⟨some 11, .pu (.fa 0 (.t 10)), none⟩, ⟨some 12, .ld false 1 (.t 11), none⟩, ⟨some 13, .pu (.mov (.t 1)), none⟩, ⟨some 14, .pu (.mov (.t 2)), none⟩, ⟨some 15, .pu (.ia 1 (.t 12) (.t 13)), none⟩, ⟨none, .ef (.store 1 (.t 15) (.t 14)), none⟩]) .skip))
def ir56 : IFn := { ntmps := 16, results := rs56, body := c56 }
/-! (*cableway/arena.Arena).Len -/
def rs57 : List RV := [(.t 2)]
def c57 : IC := (.seq (.region [⟨some 2, .pu (.mov (.c (.i .i64 0))), none⟩]) (.seq (.seq (.region [⟨some 3, .pu (.mov (.t 0)), none⟩, ⟨some 4, .pu (.eqz false .p (.t 3) (.c (.p none))), none⟩]) (.cond (.t 4) (.seq (.region [⟨some 2, .pu (.mov (.c (.i .i64 0))), none⟩]) .ret) .skip)) (.seq (.region [⟨some 5, .pu (.mov (.t 0)), none⟩, ⟨some 6, .pu (.nilc (.t 5)), none⟩, ⟨some 7, .pu (.fa 0 (.t 6)), none⟩, ⟨some 8, .ld false 1 (.t 7), none⟩, ⟨some 9, .pu (.lens (.t 8)), none⟩, ⟨some 2, .pu (.mov (.t 9)), none⟩]) .ret)))
def ir57 : IFn := { ntmps := 10, results := rs57, body := c57 }
/-! cableway/ring.place -/
def rs58 : List RV := [(.t 4)]
def c58 : IC := (.seq (.region [⟨some 2, .al (.box (.t 0)), none⟩, ⟨some 4, .pu (.mov (.c (.i .i64 0))), none⟩]) (.seq (.draw [⟨some 5, .pu (.fa 0 (.t 2)), none⟩, ⟨some 6, .ld false 1 (.t 5), none⟩, ⟨some 7, .pu (.bin .add (.t 6) (.c (.i .i64 1))), none⟩, ⟨some 8, .pu (.mov (.t 1)), none⟩, ⟨some 9, .pu (.fa 1 (.t 2)), none⟩, ⟨some 10, .ld false 1 (.t 9), none⟩, ⟨some 11, .pu (.cvi .u64 (.t 10)), none⟩, ⟨some 12, .pu (.bin .rem (.t 8) (.t 11)), none⟩, ⟨some 13, .pu (.cvi .i64 (.t 12)), none⟩, ⟨some 14, .pu (.bin .mul (.t 13) (.c (.i .i64 4))), none⟩, ⟨some 15, .pu (.bin .add (.t 7) (.t 14)), none⟩, ⟨some 4, .pu (.mov (.t 15)), none⟩] []) .ret))
def ir58 : IFn := { ntmps := 16, results := rs58, body := c58 }
/-! slices.Clone[[]int,int] -/
def rs59 : List RV := [(.t 2)]
def c59 : IC := (.seq (.region [⟨some 2, .pu (.mov (.c .nsl)), none⟩]) (.seq (.seq (.region [⟨some 3, .pu (.mov (.t 0)), none⟩, ⟨some 4, .pu (.eqz false .s (.t 3) (.c .nsl)), none⟩]) (.cond (.t 4) (.seq (.region [⟨some 2, .pu (.mov (.c .nsl)), none⟩]) .ret) .skip)) (.seq (.region [⟨some 5, .al (.sl 0 [] []), none⟩, ⟨some 6, .pu (.mov (.t 0)), none⟩, ⟨some 7, .ef (.app 1 8 (.t 5) (.t 6)), none⟩, ⟨some 2, .pu (.mov (.t 7)), none⟩]) .ret)))
def ir59 : IFn := { ntmps := 8, results := rs59, body := c59 }
/-! (*cableway/arena.Arena).touch -/
def rs79 : List RV := [(.t 4)]
def c79_2 : IC := (.seq (.region [⟨some 4, .pu (.mov (.c (.b true))), none⟩]) .ret)
def c79_1 : IC := (.seq (.seq (.region [⟨some 25, .pu (.mov (.t 0)), none⟩, ⟨some 26, .pu (.nilc (.t 25)), none⟩, ⟨some 27, .pu (.fa 1 (.t 26)), none⟩, ⟨some 28, .ld false 1 (.t 27), none⟩, ⟨some 29, .pu (.mov (.t 1)), none⟩, ⟨some 30, .ef (.call 104 [(.t 28), (.t 29)]), none⟩, ⟨some 31, .pu (.un .not (.t 30)), none⟩]) (.cond (.t 31) (.region [⟨some 32, .pu (.mov (.t 0)), none⟩, ⟨some 33, .pu (.mov (.t 0)), none⟩, ⟨some 34, .pu (.nilc (.t 33)), none⟩, ⟨some 35, .pu (.fa 1 (.t 34)), none⟩, ⟨some 36, .ld false 1 (.t 35), none⟩, ⟨some 37, .pu (.mov (.t 1)), none⟩, ⟨some 38, .al (.sl 1 [(.i .i64 0)] [(0, 1, (.t 37))]), none⟩, ⟨some 39, .ef (.app 1 8 (.t 36) (.t 38)), none⟩, ⟨some 40, .pu (.nilc (.t 32)), none⟩, ⟨some 41, .pu (.fa 1 (.t 40)), none⟩, ⟨none, .ef (.store 1 (.t 41) (.t 39)), none⟩]) .skip)) c79_2)
def c79_3 : IC := (.cond (.t 17) (.seq (.region [⟨some 18, .pu (.mov (.t 0)), none⟩, ⟨some 19, .pu (.nilc (.t 18)), none⟩, ⟨some 20, .pu (.fa 2 (.t 19)), none⟩, ⟨some 21, .ld false 1 (.t 20), none⟩, ⟨some 22, .pu (.bin .add (.t 21) (.c (.i .i64 1))), none⟩, ⟨some 23, .pu (.nilc (.t 18)), none⟩, ⟨some 24, .pu (.fa 2 (.t 23)), none⟩, ⟨none, .ef (.store 1 (.t 24) (.t 22)), none⟩]) (.seq (.region [⟨some 4, .pu (.mov (.c (.b false))), none⟩]) .ret)) .skip)
def o79_4 : List IOp := [⟨some 17, .pu (.pick (.t 9) (.c (.b true)) (.t 16)), none⟩] ++ []
def o79_5 : List IOp := [⟨some 10, .pu (.mov (.t 1)), some (9, false)⟩, ⟨some 11, .pu (.mov (.t 0)), some (9, false)⟩, ⟨some 12, .pu (.nilc (.t 11)), some (9, false)⟩, ⟨some 13, .pu (.fa 0 (.t 12)), some (9, false)⟩, ⟨some 14, .ld false 1 (.t 13), some (9, false)⟩, ⟨some 15, .pu (.lens (.t 14)), some (9, false)⟩, ⟨some 16, .pu (.bin .geq (.t 10) (.t 15)), some (9, false)⟩] ++ o79_4
def o79_6 : List IOp := [⟨some 7, .pu (.mov (.t 1)), none⟩, ⟨some 8, .pu (.bin .lss (.t 7) (.c (.i .i64 0))), none⟩, ⟨some 9, .pu (.mov (.t 8)), none⟩] ++ o79_5
def c79 : IC := (.seq (.region [⟨some 4, .pu (.mov (.c (.b false))), none⟩]) (.seq (.seq (.region [⟨some 5, .pu (.mov (.t 0)), none⟩, ⟨some 6, .pu (.eqz false .p (.t 5) (.c (.p none))), none⟩]) (.cond (.t 6) (.seq (.region [⟨some 4, .pu (.mov (.c (.b false))), none⟩]) .ret) .skip)) (.seq (.seq (.region o79_6) c79_3) c79_1)))
def ir79 : IFn := { ntmps := 42, results := rs79, body := c79 }
/-! slices.Contains[[]int,int] -/
def rs104 : List RV := [(.t 4)]
def c104 : IC := (.seq (.region [⟨some 4, .pu (.mov (.c (.b false))), none⟩]) (.seq (.region [⟨some 5, .pu (.mov (.t 0)), none⟩, ⟨some 6, .pu (.mov (.t 1)), none⟩, ⟨some 7, .ef (.call 109 [(.t 5), (.t 6)]), none⟩, ⟨some 8, .pu (.bin .geq (.t 7) (.c (.i .i64 0))), none⟩, ⟨some 4, .pu (.mov (.t 8)), none⟩]) .ret))
def ir104 : IFn := { ntmps := 9, results := rs104, body := c104 }
/-! slices.Index[[]int,int] -/
def rs109 : List RV := [(.t 4)]
def c109_1 : IC := (.seq (.region [⟨some 4, .pu (.mov (.c (.i .i64 (-1)))), none⟩]) .ret)
def c109_2 : IC := (.seq (.region [⟨some 9, .pu (.bin .lss (.t 8) (.t 7)), none⟩]) (.seq (.cond (.t 9) .skip (.exit 0)) (.seq (.block 1 (.seq (.region [⟨some 10, .pu (.mov (.t 8)), none⟩, ⟨some 5, .pu (.mov (.t 10)), none⟩]) (.seq (.region [⟨some 11, .pu (.mov (.t 1)), none⟩, ⟨some 12, .pu (.mov (.t 0)), none⟩, ⟨some 13, .pu (.mov (.t 5)), none⟩, ⟨some 14, .pu (.ia 1 (.t 12) (.t 13)), none⟩, ⟨some 15, .ld false 1 (.t 14), none⟩, ⟨some 16, .pu (.bin .eql (.t 11) (.t 15)), none⟩]) (.cond (.t 16) (.seq (.region [⟨some 17, .pu (.mov (.t 5)), none⟩, ⟨some 4, .pu (.mov (.t 17)), none⟩]) .ret) .skip)))) (.region [⟨some 18, .pu (.bin .add (.t 8) (.c (.i .i64 1))), none⟩, ⟨some 8, .pu (.mov (.t 18)), none⟩]))))
def c109 : IC := (.seq (.region [⟨some 4, .pu (.mov (.c (.i .i64 0))), none⟩]) (.seq (.seq (.region [⟨some 6, .pu (.mov (.t 0)), none⟩, ⟨some 7, .pu (.lens (.t 6)), none⟩, ⟨some 8, .pu (.mov (.c (.i .i64 0))), none⟩]) (.block 0 (.loop c109_2))) c109_1))
def ir109 : IFn := { ntmps := 19, results := rs109, body := c109 }
def tree : Tr IFn := (.n (.n (.n (.n (.n (.n .l (some ir31) .l) (some ir15) (.n (.n .l (some ir79) .l) none .l)) none (.n .l (some ir23) (.n .l (some ir55) .l))) none (.n (.n .l (some ir19) (.n .l (some ir51) .l)) none (.n .l (some ir27) (.n .l (some ir59) .l)))) none (.n (.n (.n .l (some ir17) .l) none (.n .l (some ir25) (.n .l (some ir57) .l))) none (.n (.n .l (some ir21) (.n .l (some ir53) .l)) (some ir13) (.n (.n .l none (.n .l (some ir109) .l)) none .l)))) none (.n (.n (.n (.n .l (some ir16) .l) none (.n (.n .l none (.n .l (some ir104) .l)) (some ir24) (.n .l (some ir56) .l))) (some ir4) (.n (.n .l (some ir20) (.n .l (some ir52) .l)) (some ir12) .l)) none (.n (.n (.n .l (some ir18) (.n .l (some ir50) .l)) none (.n .l none (.n .l (some ir58) .l))) none (.n (.n .l (some ir22) (.n .l (some ir54) .l)) (some ir14) .l))))
def IP (f : Nat) : Option IFn := tree.get f
theorem ok4 : ∃ fn, Try.prog.funcs[4]? = some fn ∧ trFn Try.prog 0 fn = some ir4 := ⟨_, Try.func4, by kernel_rfl⟩
theorem ok12 : ∃ fn, Try.prog.funcs[12]? = some fn ∧ trFn Try.prog 0 fn = some ir12 := ⟨_, Try.func12, by kernel_rfl⟩
theorem ok13 : ∃ fn, Try.prog.funcs[13]? = some fn ∧ trFn Try.prog 0 fn = some ir13 := ⟨_, Try.func13, by kernel_rfl⟩
theorem ok14 : ∃ fn, Try.prog.funcs[14]? = some fn ∧ trFn Try.prog 0 fn = some ir14 := ⟨_, Try.func14, by kernel_rfl⟩
theorem ok15 : ∃ fn, Try.prog.funcs[15]? = some fn ∧ trFn Try.prog 0 fn = some ir15 := ⟨_, Try.func15, by kernel_rfl⟩
theorem ok16 : ∃ fn, Try.prog.funcs[16]? = some fn ∧ trFn Try.prog 0 fn = some ir16 := ⟨_, Try.func16, by kernel_rfl⟩
theorem ok17 : ∃ fn, Try.prog.funcs[17]? = some fn ∧ trFn Try.prog 0 fn = some ir17 := ⟨_, Try.func17, by kernel_rfl⟩
theorem ok18 : ∃ fn, Try.prog.funcs[18]? = some fn ∧ trFn Try.prog 0 fn = some ir18 := ⟨_, Try.func18, by kernel_rfl⟩
theorem ok19 : ∃ fn, Try.prog.funcs[19]? = some fn ∧ trFn Try.prog 0 fn = some ir19 := ⟨_, Try.func19, by kernel_rfl⟩
theorem ok20 : ∃ fn, Try.prog.funcs[20]? = some fn ∧ trFn Try.prog 0 fn = some ir20 := ⟨_, Try.func20, by kernel_rfl⟩
theorem ok21 : ∃ fn, Try.prog.funcs[21]? = some fn ∧ trFn Try.prog 0 fn = some ir21 := ⟨_, Try.func21, by kernel_rfl⟩
theorem ok22 : ∃ fn, Try.prog.funcs[22]? = some fn ∧ trFn Try.prog 0 fn = some ir22 := ⟨_, Try.func22, by kernel_rfl⟩
theorem ok23 : ∃ fn, Try.prog.funcs[23]? = some fn ∧ trFn Try.prog 0 fn = some ir23 := ⟨_, Try.func23, by kernel_rfl⟩
theorem ok24 : ∃ fn, Try.prog.funcs[24]? = some fn ∧ trFn Try.prog 0 fn = some ir24 := ⟨_, Try.func24, by kernel_rfl⟩
theorem ok25 : ∃ fn, Try.prog.funcs[25]? = some fn ∧ trFn Try.prog 0 fn = some ir25 := ⟨_, Try.func25, by kernel_rfl⟩
theorem ok27 : ∃ fn, Try.prog.funcs[27]? = some fn ∧ trFn Try.prog 0 fn = some ir27 := ⟨_, Try.func27, by kernel_rfl⟩
theorem ok31 : ∃ fn, Try.prog.funcs[31]? = some fn ∧ trFn Try.prog 0 fn = some ir31 := ⟨_, Try.func31, by kernel_rfl⟩
theorem ok50 : ∃ fn, Try.prog.funcs[50]? = some fn ∧ trFn Try.prog 0 fn = some ir50 := ⟨_, Try.func50, by kernel_rfl⟩
theorem ok51 : ∃ fn, Try.prog.funcs[51]? = some fn ∧ trFn Try.prog 0 fn = some ir51 := ⟨_, Try.func51, by kernel_rfl⟩
theorem ok52 : ∃ fn, Try.prog.funcs[52]? = some fn ∧ trFn Try.prog 0 fn = some ir52 := ⟨_, Try.func52, by kernel_rfl⟩
theorem ok53 : ∃ fn, Try.prog.funcs[53]? = some fn ∧ trFn Try.prog 0 fn = some ir53 := ⟨_, Try.func53, by kernel_rfl⟩
theorem ok54 : ∃ fn, Try.prog.funcs[54]? = some fn ∧ trFn Try.prog 0 fn = some ir54 := ⟨_, Try.func54, by kernel_rfl⟩
theorem ok55 : ∃ fn, Try.prog.funcs[55]? = some fn ∧ trFn Try.prog 0 fn = some ir55 := ⟨_, Try.func55, by kernel_rfl⟩
theorem ok56 : ∃ fn, Try.prog.funcs[56]? = some fn ∧ trFn Try.prog 0 fn = some ir56 := ⟨_, Try.func56, by kernel_rfl⟩
theorem ok57 : ∃ fn, Try.prog.funcs[57]? = some fn ∧ trFn Try.prog 0 fn = some ir57 := ⟨_, Try.func57, by kernel_rfl⟩
theorem ok58 : ∃ fn, Try.prog.funcs[58]? = some fn ∧ trFn Try.prog 0 fn = some ir58 := ⟨_, Try.func58, by kernel_rfl⟩
theorem ok59 : ∃ fn, Try.prog.funcs[59]? = some fn ∧ trFn Try.prog 0 fn = some ir59 := ⟨_, Try.func59, by kernel_rfl⟩
theorem ok79 : ∃ fn, Try.prog.funcs[79]? = some fn ∧ trFn Try.prog 0 fn = some ir79 := ⟨_, Try.func79, by kernel_rfl⟩
theorem ok104 : ∃ fn, Try.prog.funcs[104]? = some fn ∧ trFn Try.prog 0 fn = some ir104 := ⟨_, Try.func104, by kernel_rfl⟩
theorem ok109 : ∃ fn, Try.prog.funcs[109]? = some fn ∧ trFn Try.prog 0 fn = some ir109 := ⟨_, Try.func109, by kernel_rfl⟩
theorem all : tree.All (fun f ir => ∃ fn, Try.prog.funcs[f]? = some fn ∧ trFn Try.prog 0 fn = some ir) 1 0 :=
  ⟨(fun _ h => by cases h), ⟨(fun _ h => by cases h), ⟨(fun _ h => by cases h), ⟨(fun _ h => by cases h), ⟨(fun _ h => by cases h; exact ok15), ⟨(fun _ h => by cases h; exact ok31), trivial, trivial⟩, ⟨(fun _ h => by cases h), ⟨(fun _ h => by cases h; exact ok79), trivial, trivial⟩, trivial⟩⟩, ⟨(fun _ h => by cases h; exact ok23), trivial, ⟨(fun _ h => by cases h; exact ok55), trivial, trivial⟩⟩⟩, ⟨(fun _ h => by cases h), ⟨(fun _ h => by cases h; exact ok19), trivial, ⟨(fun _ h => by cases h; exact ok51), trivial, trivial⟩⟩, ⟨(fun _ h => by cases h; exact ok27), trivial, ⟨(fun _ h => by cases h; exact ok59), trivial, trivial⟩⟩⟩⟩, ⟨(fun _ h => by cases h), ⟨(fun _ h => by cases h), ⟨(fun _ h => by cases h; exact ok17), trivial, trivial⟩, ⟨(fun _ h => by cases h; exact ok25), trivial, ⟨(fun _ h => by cases h; exact ok57), trivial, trivial⟩⟩⟩, ⟨(fun _ h => by cases h; exact ok13), ⟨(fun _ h => by cases h; exact ok21), trivial, ⟨(fun _ h => by cases h; exact ok53), trivial, trivial⟩⟩, ⟨(fun _ h => by cases h), ⟨(fun _ h => by cases h), trivial, ⟨(fun _ h => by cases h; exact ok109), trivial, trivial⟩⟩, trivial⟩⟩⟩⟩, ⟨(fun _ h => by cases h), ⟨(fun _ h => by cases h; exact ok4), ⟨(fun _ h => by cases h), ⟨(fun _ h => by cases h; exact ok16), trivial, trivial⟩, ⟨(fun _ h => by cases h; exact ok24), ⟨(fun _ h => by cases h), trivial, ⟨(fun _ h => by cases h; exact ok104), trivial, trivial⟩⟩, ⟨(fun _ h => by cases h; exact ok56), trivial, trivial⟩⟩⟩, ⟨(fun _ h => by cases h; exact ok12), ⟨(fun _ h => by cases h; exact ok20), trivial, ⟨(fun _ h => by cases h; exact ok52), trivial, trivial⟩⟩, trivial⟩⟩, ⟨(fun _ h => by cases h), ⟨(fun _ h => by cases h), ⟨(fun _ h => by cases h; exact ok18), trivial, ⟨(fun _ h => by cases h; exact ok50), trivial, trivial⟩⟩, ⟨(fun _ h => by cases h), trivial, ⟨(fun _ h => by cases h; exact ok58), trivial, trivial⟩⟩⟩, ⟨(fun _ h => by cases h; exact ok14), ⟨(fun _ h => by cases h; exact ok22), trivial, ⟨(fun _ h => by cases h; exact ok54), trivial, trivial⟩⟩, trivial⟩⟩⟩⟩
theorem bare : AllBare IP := allBare tree (by kernel_rfl)
theorem prog : ProgOK Try.prog 0 IP := progOK_of_tree (by kernel_rfl) all
theorem ip4 : IP 4 = some ir4 := rfl
def Q4 [q : Hid (V → H → Prop)] : X → E → H → Prop := Qr rs4 q.un
def Q4_1 [q : Hid (V → H → Prop)] : X → E → H → Prop := (@Q4 q)
def K4_1 (h : H) [q : Hid (V → H → Prop)] : Prop := @wF IP 17 [] h ⟨fun v1 h2 => @Hid.un (V → H → Prop) q v1 h2⟩
def J4_1 [q : Hid (V → H → Prop)] : E → H → Prop := fun e h => @K4_1 h q
theorem p4_1 [q : Hid (V → H → Prop)] : den IP c4_1 (@Q4_1 q) = (@J4_1 q) := by kernel_rfl
def R4_2 [q : Hid (V → H → Prop)] : X → E → H → Prop := (Qb 0 (Qx (@J4_1 q) (@Q4 q)))
def Q4_2 [q : Hid (V → H → Prop)] [g4_2 : Hid (V → V → V → V → V → V → H → Prop)] : X → E → H → Prop := Qx (fun e h => g4_2.un (e 1) (e 2) (e 7) (e 8) (e 9) (e 10) h) (@R4_2 q)
def Q4_3 [q : Hid (V → H → Prop)] [g4_2 : Hid (V → V → V → V → V → V → H → Prop)] : X → E → H → Prop := (@Q4_2 q g4_2)
def Q4_4 [q : Hid (V → H → Prop)] [g4_2 : Hid (V → V → V → V → V → V → H → Prop)] : X → E → H → Prop := (@Q4_3 q g4_2)
def K4_4 (x1 x2 x7 x8 x9 x10 : V) (h : H) [q : Hid (V → H → Prop)] [g4_2 : Hid (V → V → V → V → V → V → H → Prop)] : Prop := @Bnd V (bin .add x10 (.i .i64 1)) ⟨fun v1 => @Hid.un (V → V → V → V → V → V → H → Prop) g4_2 x1 x2 x7 x8 x9 v1 h⟩
def J4_4 [q : Hid (V → H → Prop)] [g4_2 : Hid (V → V → V → V → V → V → H → Prop)] : E → H → Prop := fun e h => @K4_4 (e 1) (e 2) (e 7) (e 8) (e 9) (e 10) h q g4_2
theorem p4_4 [q : Hid (V → H → Prop)] [g4_2 : Hid (V → V → V → V → V → V → H → Prop)] : den IP c4_4 (@Q4_4 q g4_2) = (@J4_4 q g4_2) := by kernel_rfl
def Q4_5 [q : Hid (V → H → Prop)] [g4_2 : Hid (V → V → V → V → V → V → H → Prop)] : X → E → H → Prop := (Qb 1 (Qx (@J4_4 q g4_2) (@Q4_3 q g4_2)))
def Q4_6 [q : Hid (V → H → Prop)] [g4_2 : Hid (V → V → V → V → V → V → H → Prop)] : X → E → H → Prop := (@Q4_5 q g4_2)
def Q4_7 [q : Hid (V → H → Prop)] [g4_2 : Hid (V → V → V → V → V → V → H → Prop)] : X → E → H → Prop := (@Q4_6 q g4_2)
def R4_8 [q : Hid (V → H → Prop)] [g4_2 : Hid (V → V → V → V → V → V → H → Prop)] : X → E → H → Prop := (Qb 2 (@Q4_7 q g4_2))
def Q4_8 [q : Hid (V → H → Prop)] [g4_2 : Hid (V → V → V → V → V → V → H → Prop)] [g4_8 : Hid (V → V → V → V → V → V → V → H → Prop)] : X → E → H → Prop := Qx (fun e h => g4_8.un (e 1) (e 2) (e 7) (e 8) (e 9) (e 10) (e 16) h) (@R4_8 q g4_2)
def L4_8 (x1 x2 x7 x8 x9 x10 x16 : V) (h : H) [q : Hid (V → H → Prop)] [g4_2 : Hid (V → V → V → V → V → V → H → Prop)] [g4_8 : Hid (V → V → V → V → V → V → V → H → Prop)] : Prop := @Bnd V (bin .lss x16 (.i .i64 3)) ⟨fun v1 => @Sel v1 ⟨@Bnd V (vLdA h 2 x8) ⟨fun v2 => @Bnd V (vCvi .u64 x10) ⟨fun v3 => @wF IP 25 [v2, v3, x16] h ⟨fun v4 h5 => @wF IP 24 [x9, v4] h5 ⟨fun v6 h7 => @Bnd V (vIa 3 x1 x10) ⟨fun v8 => @Bnd V (vIaa 1 3 v8 x16) ⟨fun v9 => @Bnd V (vLd1 h7 v9) ⟨fun v10 => @Bnd V (bin .neq v6 v10) ⟨fun v11 => @Chk (stdy false 1 v9 h h5) ⟨@Chk (stdy false 1 v9 h5 h7) ⟨@Sel v11 ⟨@Hid.un (V → H → Prop) q (.b false) h7⟩ ⟨@Bnd V (bin .add x16 (.i .i64 1)) ⟨fun v12 => @Hid.un (V → V → V → V → V → V → V → H → Prop) g4_8 x1 x2 x7 x8 x9 x10 v12 h7⟩⟩⟩⟩⟩⟩⟩⟩⟩⟩⟩⟩⟩ ⟨@K4_4 x1 x2 x7 x8 x9 x10 h q g4_2⟩⟩
theorem p4_8 [q : Hid (V → H → Prop)] [g4_2 : Hid (V → V → V → V → V → V → H → Prop)] [g4_8 : Hid (V → V → V → V → V → V → V → H → Prop)] : den IP c4_8 (@Q4_8 q g4_2 g4_8) = fun e h => @L4_8 (e 1) (e 2) (e 7) (e 8) (e 9) (e 10) (e 16) h q g4_2 g4_8 := by kernel_rfl
def W4_8 (x1 x2 x7 x8 x9 x10 x16 : V) (h : H) [q : Hid (V → H → Prop)] [g4_2 : Hid (V → V → V → V → V → V → H → Prop)] : Prop := wFix (fun (g : V × V × V × V × V × V × V × Unit → H → Prop) (x : V × V × V × V × V × V × V × Unit) h => @L4_8 x.1 x.2.1 x.2.2.1 x.2.2.2.1 x.2.2.2.2.1 x.2.2.2.2.2.1 x.2.2.2.2.2.2.1 h q g4_2 ⟨fun y1 y2 y7 y8 y9 y10 y16 h => g (y1, y2, y7, y8, y9, y10, y16, ()) h⟩) (x1, x2, x7, x8, x9, x10, x16, ()) h
theorem n4_8 [q : Hid (V → H → Prop)] [g4_2 : Hid (V → V → V → V → V → V → H → Prop)] : ∀ g : V × V × V × V × V × V × V × Unit → H → Prop, den IP c4_8 (Qx (fun e h => g ((fun e : E => ((e 1, e 2, e 7, e 8, e 9, e 10, e 16, ()) : V × V × V × V × V × V × V × Unit)) e) h) (@R4_8 q g4_2)) = fun e h => (fun (g : V × V × V × V × V × V × V × Unit → H → Prop) (x : V × V × V × V × V × V × V × Unit) h => @L4_8 x.1 x.2.1 x.2.2.1 x.2.2.2.1 x.2.2.2.2.1 x.2.2.2.2.2.1 x.2.2.2.2.2.2.1 h q g4_2 ⟨fun y1 y2 y7 y8 y9 y10 y16 h => g (y1, y2, y7, y8, y9, y10, y16, ()) h⟩) g ((fun e : E => ((e 1, e 2, e 7, e 8, e 9, e 10, e 16, ()) : V × V × V × V × V × V × V × Unit)) e) h := fun g => @p4_8 q g4_2 ⟨fun y1 y2 y7 y8 y9 y10 y16 h => g (y1, y2, y7, y8, y9, y10, y16, ()) h⟩
theorem w4_8 [q : Hid (V → H → Prop)] [g4_2 : Hid (V → V → V → V → V → V → H → Prop)] : den IP (.loop c4_8) (@R4_8 q g4_2) = fun e h => @W4_8 (e 1) (e 2) (e 7) (e 8) (e 9) (e 10) (e 16) h q g4_2 := loop_eq (fun e : E => ((e 1, e 2, e 7, e 8, e 9, e 10, e 16, ()) : V × V × V × V × V × V × V × Unit)) (fun (g : V × V × V × V × V × V × V × Unit → H → Prop) (x : V × V × V × V × V × V × V × Unit) h => @L4_8 x.1 x.2.1 x.2.2.1 x.2.2.2.1 x.2.2.2.2.1 x.2.2.2.2.2.1 x.2.2.2.2.2.2.1 h q g4_2 ⟨fun y1 y2 y7 y8 y9 y10 y16 h => g (y1, y2, y7, y8, y9, y10, y16, ()) h⟩) (@n4_8 q g4_2)
theorem m4_8 [q : Hid (V → H → Prop)] [g4_2 : Hid (V → V → V → V → V → V → H → Prop)] : Mono (fun (g : V × V × V × V × V × V × V × Unit → H → Prop) (x : V × V × V × V × V × V × V × Unit) h => @L4_8 x.1 x.2.1 x.2.2.1 x.2.2.2.1 x.2.2.2.2.1 x.2.2.2.2.2.1 x.2.2.2.2.2.2.1 h q g4_2 ⟨fun y1 y2 y7 y8 y9 y10 y16 h => g (y1, y2, y7, y8, y9, y10, y16, ()) h⟩) := mono_of (p := (fun e : E => ((e 1, e 2, e 7, e 8, e 9, e 10, e 16, ()) : V × V × V × V × V × V × V × Unit))) (fun x : V × V × V × V × V × V × V × Unit => upd (upd (upd (upd (upd (upd (upd (fun _ => undefV) 16 (x.2.2.2.2.2.2.1)) 10 (x.2.2.2.2.2.1)) 9 (x.2.2.2.2.1)) 8 (x.2.2.2.1)) 7 (x.2.2.1)) 2 (x.2.1)) 1 (x.1)) (fun _ => rfl) (@n4_8 q g4_2)
theorem W4_8_inv {q : Hid (V → H → Prop)} {g4_2 : Hid (V → V → V → V → V → V → H → Prop)} (I : Nat → V → V → V → V → V → V → V → H → Prop) (step : ∀ n x1 x2 x7 x8 x9 x10 x16 h, I n x1 x2 x7 x8 x9 x10 x16 h → @L4_8 x1 x2 x7 x8 x9 x10 x16 h q g4_2 ⟨fun y1 y2 y7 y8 y9 y10 y16 h => ∃ m, m < n ∧ I m y1 y2 y7 y8 y9 y10 y16 h⟩) (n : Nat) (x1 x2 x7 x8 x9 x10 x16 : V) (h : H) (hi : I n x1 x2 x7 x8 x9 x10 x16 h) : @W4_8 x1 x2 x7 x8 x9 x10 x16 h q g4_2 :=
  wFix_inv (@m4_8 q g4_2) (fun n x h => I n x.1 x.2.1 x.2.2.1 x.2.2.2.1 x.2.2.2.2.1 x.2.2.2.2.2.1 x.2.2.2.2.2.2.1 h) (fun n x h hi => step n x.1 x.2.1 x.2.2.1 x.2.2.2.1 x.2.2.2.2.1 x.2.2.2.2.2.1 x.2.2.2.2.2.2.1 h hi) n (x1, x2, x7, x8, x9, x10, x16, ()) h hi
theorem W4_8_eq (x1 x2 x7 x8 x9 x10 x16 : V) (h : H) {q : Hid (V → H → Prop)} {g4_2 : Hid (V → V → V → V → V → V → H → Prop)} : @W4_8 x1 x2 x7 x8 x9 x10 x16 h q g4_2 ↔ @L4_8 x1 x2 x7 x8 x9 x10 x16 h q g4_2 ⟨fun y1 y2 y7 y8 y9 y10 y16 h => @W4_8 y1 y2 y7 y8 y9 y10 y16 h q g4_2⟩ := wFix_unroll (@m4_8 q g4_2) (x1, x2, x7, x8, x9, x10, x16, ()) h
def K4_7 (x1 x2 x7 x8 x9 x10 : V) (h : H) [q : Hid (V → H → Prop)] [g4_2 : Hid (V → V → V → V → V → V → H → Prop)] : Prop := @W4_8 x1 x2 x7 x8 x9 x10 (.i .i64 0) h q g4_2
def J4_7 [q : Hid (V → H → Prop)] [g4_2 : Hid (V → V → V → V → V → V → H → Prop)] : E → H → Prop := fun e h => @K4_7 (e 1) (e 2) (e 7) (e 8) (e 9) (e 10) h q g4_2
theorem p4_7 [q : Hid (V → H → Prop)] [g4_2 : Hid (V → V → V → V → V → V → H → Prop)] : den IP c4_7 (@Q4_7 q g4_2) = (@J4_7 q g4_2) := by
  refine Eq.trans (seq_eq (block_eq (@w4_8 q g4_2)) rfl) ?_
  kernel_rfl
def Q4_9 [q : Hid (V → H → Prop)] [g4_2 : Hid (V → V → V → V → V → V → H → Prop)] : X → E → H → Prop := (Qx (@J4_7 q g4_2) (@Q4_6 q g4_2))
def K4_9 (x1 x2 x7 x8 x9 x10 x104 : V) (h : H) [q : Hid (V → H → Prop)] [g4_2 : Hid (V → V → V → V → V → V → H → Prop)] : Prop := @Sel x104 ⟨@Hid.un (V → H → Prop) q (.b false) h⟩ ⟨@K4_7 x1 x2 x7 x8 x9 x10 h q g4_2⟩
def J4_9 [q : Hid (V → H → Prop)] [g4_2 : Hid (V → V → V → V → V → V → H → Prop)] : E → H → Prop := fun e h => @K4_9 (e 1) (e 2) (e 7) (e 8) (e 9) (e 10) (e 104) h q g4_2
theorem p4_9 [q : Hid (V → H → Prop)] [g4_2 : Hid (V → V → V → V → V → V → H → Prop)] : den IP c4_9 (@Q4_9 q g4_2) = (@J4_9 q g4_2) := by kernel_rfl
def S4_13 [q : Hid (V → H → Prop)] [g4_2 : Hid (V → V → V → V → V → V → H → Prop)] : E → H → Prop := ((Qx (@J4_9 q g4_2) (Qx (@J4_7 q g4_2) (@Q4_6 q g4_2))) X.normal)
def K4_13 (x1 x2 x7 x8 x9 x10 x97 x103 : V) (h : H) [q : Hid (V → H → Prop)] [g4_2 : Hid (V → V → V → V → V → V → H → Prop)] : Prop := @Bnd V (vPick x97 (.b true) x103) ⟨fun v1 => @K4_9 x1 x2 x7 x8 x9 x10 v1 h q g4_2⟩
def J4_13 [q : Hid (V → H → Prop)] [g4_2 : Hid (V → V → V → V → V → V → H → Prop)] : E → H → Prop := fun e h => @K4_13 (e 1) (e 2) (e 7) (e 8) (e 9) (e 10) (e 97) (e 103) h q g4_2
theorem p4_13 [q : Hid (V → H → Prop)] [g4_2 : Hid (V → V → V → V → V → V → H → Prop)] : denOps IP o4_10 (@S4_13 q g4_2) = (@J4_13 q g4_2) := by
  refine Eq.trans (app_eq rfl rfl) ?_
  kernel_rfl
def K4_6 (x1 x2 x7 x8 x9 x10 x12 x14 : V) (h : H) [q : Hid (V → H → Prop)] [g4_2 : Hid (V → V → V → V → V → V → H → Prop)] : Prop := @Bnd V (bin .neq x14 (.i .i64 0)) ⟨fun v1 => @Sel v1 ⟨@Bnd V (bin .neq x14 (.i .i64 3)) ⟨fun v2 => @Sel v2 ⟨@Hid.un (V → H → Prop) q (.b false) h⟩ ⟨@K4_4 x1 x2 x7 x8 x9 x10 h q g4_2⟩⟩⟩ ⟨@Bnd V (vLdA h 9 x12) ⟨fun v3 => @wF IP 22 [v3] h ⟨fun v4 h5 => @Bnd V (vCvi .u64 x10) ⟨fun v6 => @Bnd V (bin .neq v4 v6) ⟨fun v7 => @Grd v7 false ⟨@Bnd V (vLdA h5 2 x8) ⟨fun v8 => @Bnd V (vCvi .u64 x10) ⟨fun v9 => @wF IP 23 [x9, v8, v9] h5 ⟨fun v10 h11 => @Bnd V (un .not v10) ⟨fun v12 => @K4_13 x1 x2 x7 x8 x9 x10 v7 v12 h11 q g4_2⟩⟩⟩⟩⟩ ⟨@K4_13 x1 x2 x7 x8 x9 x10 v7 undefV h5 q g4_2⟩⟩⟩⟩⟩⟩⟩
def J4_6 [q : Hid (V → H → Prop)] [g4_2 : Hid (V → V → V → V → V → V → H → Prop)] : E → H → Prop := fun e h => @K4_6 (e 1) (e 2) (e 7) (e 8) (e 9) (e 10) (e 12) (e 14) h q g4_2
theorem p4_6 [q : Hid (V → H → Prop)] [g4_2 : Hid (V → V → V → V → V → V → H → Prop)] : den IP c4_6 (@Q4_6 q g4_2) = (@J4_6 q g4_2) := by
  refine Eq.trans (seq_eq (seq_eq (@p4_7 q g4_2) (seq_eq (@p4_9 q g4_2) (region_eq (app_eq (grp_eq2 97 false rfl (@p4_13 q g4_2) rfl) rfl)))) rfl) ?_
  kernel_rfl
def Q4_14 [q : Hid (V → H → Prop)] [g4_2 : Hid (V → V → V → V → V → V → H → Prop)] : X → E → H → Prop := (Qx (@J4_6 q g4_2) (@Q4_5 q g4_2))
def K4_14 (x1 x2 x7 x8 x9 x10 x12 x14 x87 : V) (h : H) [q : Hid (V → H → Prop)] [g4_2 : Hid (V → V → V → V → V → V → H → Prop)] : Prop := @Sel x87 ⟨@Hid.un (V → H → Prop) q (.b false) h⟩ ⟨@K4_6 x1 x2 x7 x8 x9 x10 x12 x14 h q g4_2⟩
def J4_14 [q : Hid (V → H → Prop)] [g4_2 : Hid (V → V → V → V → V → V → H → Prop)] : E → H → Prop := fun e h => @K4_14 (e 1) (e 2) (e 7) (e 8) (e 9) (e 10) (e 12) (e 14) (e 87) h q g4_2
theorem p4_14 [q : Hid (V → H → Prop)] [g4_2 : Hid (V → V → V → V → V → V → H → Prop)] : den IP c4_14 (@Q4_14 q g4_2) = (@J4_14 q g4_2) := by kernel_rfl
def S4_22 [q : Hid (V → H → Prop)] [g4_2 : Hid (V → V → V → V → V → V → H → Prop)] : E → H → Prop := ((Qx (@J4_14 q g4_2) (Qx (@J4_6 q g4_2) (@Q4_5 q g4_2))) X.normal)
def K4_22 (x1 x2 x7 x8 x9 x10 x12 x14 x80 x86 : V) (h : H) [q : Hid (V → H → Prop)] [g4_2 : Hid (V → V → V → V → V → V → H → Prop)] : Prop := @Bnd V (vPick x80 (.b true) x86) ⟨fun v1 => @K4_14 x1 x2 x7 x8 x9 x10 x12 x14 v1 h q g4_2⟩
def J4_22 [q : Hid (V → H → Prop)] [g4_2 : Hid (V → V → V → V → V → V → H → Prop)] : E → H → Prop := fun e h => @K4_22 (e 1) (e 2) (e 7) (e 8) (e 9) (e 10) (e 12) (e 14) (e 80) (e 86) h q g4_2
theorem p4_22 [q : Hid (V → H → Prop)] [g4_2 : Hid (V → V → V → V → V → V → H → Prop)] : denOps IP o4_15 (@S4_22 q g4_2) = (@J4_22 q g4_2) := by
  refine Eq.trans (app_eq rfl rfl) ?_
  kernel_rfl
def S4_23 [q : Hid (V → H → Prop)] [g4_2 : Hid (V → V → V → V → V → V → H → Prop)] : E → H → Prop := ((Qx (@J4_14 q g4_2) (Qx (@J4_6 q g4_2) (@Q4_5 q g4_2))) X.normal)
def K4_23 (x1 x2 x7 x8 x9 x10 x12 x14 x76 x78 : V) (h : H) [q : Hid (V → H → Prop)] [g4_2 : Hid (V → V → V → V → V → V → H → Prop)] : Prop := @Bnd V (vPick x76 (.b true) x78) ⟨fun v1 => @Grd v1 false ⟨@Bnd V (vLdA h 9 x12) ⟨fun v2 => @wF IP 18 [v2] h ⟨fun v3 h4 => @Bnd V (bin .lss x10 x7) ⟨fun v5 => @Bnd V (vEqz true .b v3 v5) ⟨fun v6 => @K4_22 x1 x2 x7 x8 x9 x10 x12 x14 v1 v6 h4 q g4_2⟩⟩⟩⟩⟩ ⟨@K4_22 x1 x2 x7 x8 x9 x10 x12 x14 v1 undefV h q g4_2⟩⟩
def J4_23 [q : Hid (V → H → Prop)] [g4_2 : Hid (V → V → V → V → V → V → H → Prop)] : E → H → Prop := fun e h => @K4_23 (e 1) (e 2) (e 7) (e 8) (e 9) (e 10) (e 12) (e 14) (e 76) (e 78) h q g4_2
theorem p4_23 [q : Hid (V → H → Prop)] [g4_2 : Hid (V → V → V → V → V → V → H → Prop)] : denOps IP o4_17 (@S4_23 q g4_2) = (@J4_23 q g4_2) := by
  refine Eq.trans (app_eq (grp_eq2 80 false rfl (@p4_22 q g4_2) rfl) rfl) ?_
  kernel_rfl
def S4_24 [q : Hid (V → H → Prop)] [g4_2 : Hid (V → V → V → V → V → V → H → Prop)] : E → H → Prop := ((Qx (@J4_14 q g4_2) (Qx (@J4_6 q g4_2) (@Q4_5 q g4_2))) X.normal)
def K4_24 (x1 x2 x7 x8 x9 x10 x12 x13 x14 x68 x74 : V) (h : H) [q : Hid (V → H → Prop)] [g4_2 : Hid (V → V → V → V → V → V → H → Prop)] : Prop := @Bnd V (vPick x68 (.b true) x74) ⟨fun v1 => @Grd v1 false ⟨@Bnd V (bin .lss x13 (.i .i64 1)) ⟨fun v2 => @K4_23 x1 x2 x7 x8 x9 x10 x12 x14 v1 v2 h q g4_2⟩⟩ ⟨@K4_23 x1 x2 x7 x8 x9 x10 x12 x14 v1 undefV h q g4_2⟩⟩
def J4_24 [q : Hid (V → H → Prop)] [g4_2 : Hid (V → V → V → V → V → V → H → Prop)] : E → H → Prop := fun e h => @K4_24 (e 1) (e 2) (e 7) (e 8) (e 9) (e 10) (e 12) (e 13) (e 14) (e 68) (e 74) h q g4_2
theorem p4_24 [q : Hid (V → H → Prop)] [g4_2 : Hid (V → V → V → V → V → V → H → Prop)] : denOps IP o4_19 (@S4_24 q g4_2) = (@J4_24 q g4_2) := by
  refine Eq.trans (app_eq (grp_eq2 76 false rfl (@p4_23 q g4_2) rfl) rfl) ?_
  kernel_rfl
def K4_5 (x1 x2 x7 x8 x9 x10 x11 : V) (h : H) [q : Hid (V → H → Prop)] [g4_2 : Hid (V → V → V → V → V → V → H → Prop)] : Prop := @Bnd V (vLdA h 9 x11) ⟨fun v1 => @wF IP 21 [x9, v1] h ⟨fun v2 h3 => @Bnd V (vExt v2 0) ⟨fun v4 => @Bnd V (vExt v2 1) ⟨fun v5 => @Bnd (V × H) (some (.p (some (H.nx h3, 0)), H.new h3 ⟨false, [(.i .i64 0), (.i .i64 0), (.i .u64 0), (.i .u64 0), (.i .u64 0), (.i .u64 0), (.i .i64 0), (.b false), (.b false)]⟩)) ⟨fun r6 => @Bnd (V × H) (vStore r6.2 9 r6.1 v4) ⟨fun r7 => @Bnd V (vLdA r7.2 9 r6.1) ⟨fun v8 => @wF IP 16 [v8] r7.2 ⟨fun v9 h10 => @Bnd V (vExt v9 0) ⟨fun v11 => @Bnd V (vExt v9 1) ⟨fun v12 => @Bnd V (un .not v12) ⟨fun v13 => @Grd v13 false ⟨@Bnd V (bin .eql v11 (.i .i64 0)) ⟨fun v14 => @Bnd V (bin .lss x10 x7) ⟨fun v15 => @Bnd V (vEqz true .b v14 v15) ⟨fun v16 => @K4_24 x1 x2 x7 x8 x9 x10 r6.1 v5 v11 v13 v16 h10 q g4_2⟩⟩⟩⟩ ⟨@K4_24 x1 x2 x7 x8 x9 x10 r6.1 v5 v11 v13 undefV h10 q g4_2⟩⟩⟩⟩⟩⟩⟩⟩⟩⟩⟩⟩
def J4_5 [q : Hid (V → H → Prop)] [g4_2 : Hid (V → V → V → V → V → V → H → Prop)] : E → H → Prop := fun e h => @K4_5 (e 1) (e 2) (e 7) (e 8) (e 9) (e 10) (e 11) h q g4_2
theorem p4_5 [q : Hid (V → H → Prop)] [g4_2 : Hid (V → V → V → V → V → V → H → Prop)] : den IP c4_5 (@Q4_5 q g4_2) = (@J4_5 q g4_2) := by
  refine Eq.trans (seq_eq (seq_eq (seq_eq (@p4_6 q g4_2) (seq_eq (@p4_14 q g4_2) (region_eq (app_eq (grp_eq2 68 false rfl (@p4_24 q g4_2) rfl) rfl)))) rfl) rfl) ?_
  kernel_rfl
def K4_3 (x1 x2 x7 x8 x9 x10 : V) (h : H) [q : Hid (V → H → Prop)] [g4_2 : Hid (V → V → V → V → V → V → H → Prop)] : Prop := @Bnd V (vLdA h 2 x8) ⟨fun v1 => @Bnd V (vIa 3 x1 x10) ⟨fun v2 => @Bnd V (vLdA h 3 v2) ⟨fun v3 => @wF IP 13 [v1, v3] h ⟨fun v4 h5 => @Bnd (V × H) (some (.p (some (H.nx h5, 0)), H.new h5 ⟨false, [(.i .i64 0), (.i .i64 0), (.i .u64 0), (.i .u64 0), (.i .u64 0), (.i .u64 0), (.i .i64 0), (.b false), (.b false)]⟩)) ⟨fun r6 => @Bnd (V × H) (vStore r6.2 9 r6.1 v4) ⟨fun r7 => @Sel x2 ⟨@Bnd V (vLdA r7.2 2 x8) ⟨fun v8 => @Bnd V (vIa 3 x1 x10) ⟨fun v9 => @Bnd V (vLdA r7.2 3 v9) ⟨fun v10 => @Bnd V (vCvi .u64 x10) ⟨fun v11 => @wF IP 15 [v8, v10, v11] r7.2 ⟨fun v12 h13 => @Bnd (V × H) (vStore h13 9 r6.1 v12) ⟨fun r14 => @K4_5 x1 x2 x7 x8 x9 x10 r6.1 r14.2 q g4_2⟩⟩⟩⟩⟩⟩⟩ ⟨@K4_5 x1 x2 x7 x8 x9 x10 r6.1 r7.2 q g4_2⟩⟩⟩⟩⟩⟩⟩
def J4_3 [q : Hid (V → H → Prop)] [g4_2 : Hid (V → V → V → V → V → V → H → Prop)] : E → H → Prop := fun e h => @K4_3 (e 1) (e 2) (e 7) (e 8) (e 9) (e 10) h q g4_2
theorem p4_3 [q : Hid (V → H → Prop)] [g4_2 : Hid (V → V → V → V → V → V → H → Prop)] : den IP c4_3 (@Q4_3 q g4_2) = (@J4_3 q g4_2) := by
  refine Eq.trans (seq_eq (@p4_4 q g4_2) (block_eq (seq_eq (seq_eq (@p4_5 q g4_2) rfl) rfl))) ?_
  kernel_rfl
def Q4_25 [q : Hid (V → H → Prop)] [g4_2 : Hid (V → V → V → V → V → V → H → Prop)] : X → E → H → Prop := (Qx (@J4_3 q g4_2) (@Q4_2 q g4_2))
def K4_25 (x1 x2 x7 x8 x9 x10 x37 : V) (h : H) [q : Hid (V → H → Prop)] [g4_2 : Hid (V → V → V → V → V → V → H → Prop)] : Prop := @Sel x37 ⟨@K4_3 x1 x2 x7 x8 x9 x10 h q g4_2⟩ ⟨@K4_1 h q⟩
def J4_25 [q : Hid (V → H → Prop)] [g4_2 : Hid (V → V → V → V → V → V → H → Prop)] : E → H → Prop := fun e h => @K4_25 (e 1) (e 2) (e 7) (e 8) (e 9) (e 10) (e 37) h q g4_2
theorem p4_25 [q : Hid (V → H → Prop)] [g4_2 : Hid (V → V → V → V → V → V → H → Prop)] : den IP c4_25 (@Q4_25 q g4_2) = (@J4_25 q g4_2) := by kernel_rfl
def S4_29 [q : Hid (V → H → Prop)] [g4_2 : Hid (V → V → V → V → V → V → H → Prop)] : E → H → Prop := ((Qx (@J4_25 q g4_2) (Qx (@J4_3 q g4_2) (@Q4_2 q g4_2))) X.normal)
def K4_29 (x1 x2 x7 x8 x9 x10 x34 x36 : V) (h : H) [q : Hid (V → H → Prop)] [g4_2 : Hid (V → V → V → V → V → V → H → Prop)] : Prop := @Bnd V (vPick x34 x36 (.b false)) ⟨fun v1 => @K4_25 x1 x2 x7 x8 x9 x10 v1 h q g4_2⟩
def J4_29 [q : Hid (V → H → Prop)] [g4_2 : Hid (V → V → V → V → V → V → H → Prop)] : E → H → Prop := fun e h => @K4_29 (e 1) (e 2) (e 7) (e 8) (e 9) (e 10) (e 34) (e 36) h q g4_2
theorem p4_29 [q : Hid (V → H → Prop)] [g4_2 : Hid (V → V → V → V → V → V → H → Prop)] : denOps IP o4_26 (@S4_29 q g4_2) = (@J4_29 q g4_2) := by
  refine Eq.trans (app_eq rfl rfl) ?_
  kernel_rfl
def L4_2 (x1 x2 x7 x8 x9 x10 : V) (h : H) [q : Hid (V → H → Prop)] [g4_2 : Hid (V → V → V → V → V → V → H → Prop)] : Prop := @Bnd V (vLens x1) ⟨fun v1 => @Bnd V (bin .lss x10 v1) ⟨fun v2 => @Grd v2 true ⟨@Bnd V (bin .lss x10 (.i .i64 8)) ⟨fun v3 => @K4_29 x1 x2 x7 x8 x9 x10 v2 v3 h q g4_2⟩⟩ ⟨@K4_29 x1 x2 x7 x8 x9 x10 v2 undefV h q g4_2⟩⟩⟩
theorem p4_2 [q : Hid (V → H → Prop)] [g4_2 : Hid (V → V → V → V → V → V → H → Prop)] : den IP c4_2 (@Q4_2 q g4_2) = fun e h => @L4_2 (e 1) (e 2) (e 7) (e 8) (e 9) (e 10) h q g4_2 := by
  refine Eq.trans (seq_eq (@p4_3 q g4_2) (seq_eq (@p4_25 q g4_2) (region_eq (app_eq (grp_eq2 34 true rfl (@p4_29 q g4_2) rfl) rfl)))) ?_
  kernel_rfl
def W4_2 (x1 x2 x7 x8 x9 x10 : V) (h : H) [q : Hid (V → H → Prop)] : Prop := wFix (fun (g : V × V × V × V × V × V × Unit → H → Prop) (x : V × V × V × V × V × V × Unit) h => @L4_2 x.1 x.2.1 x.2.2.1 x.2.2.2.1 x.2.2.2.2.1 x.2.2.2.2.2.1 h q ⟨fun y1 y2 y7 y8 y9 y10 h => g (y1, y2, y7, y8, y9, y10, ()) h⟩) (x1, x2, x7, x8, x9, x10, ()) h
theorem n4_2 [q : Hid (V → H → Prop)] : ∀ g : V × V × V × V × V × V × Unit → H → Prop, den IP c4_2 (Qx (fun e h => g ((fun e : E => ((e 1, e 2, e 7, e 8, e 9, e 10, ()) : V × V × V × V × V × V × Unit)) e) h) (@R4_2 q)) = fun e h => (fun (g : V × V × V × V × V × V × Unit → H → Prop) (x : V × V × V × V × V × V × Unit) h => @L4_2 x.1 x.2.1 x.2.2.1 x.2.2.2.1 x.2.2.2.2.1 x.2.2.2.2.2.1 h q ⟨fun y1 y2 y7 y8 y9 y10 h => g (y1, y2, y7, y8, y9, y10, ()) h⟩) g ((fun e : E => ((e 1, e 2, e 7, e 8, e 9, e 10, ()) : V × V × V × V × V × V × Unit)) e) h := fun g => @p4_2 q ⟨fun y1 y2 y7 y8 y9 y10 h => g (y1, y2, y7, y8, y9, y10, ()) h⟩
theorem w4_2 [q : Hid (V → H → Prop)] : den IP (.loop c4_2) (@R4_2 q) = fun e h => @W4_2 (e 1) (e 2) (e 7) (e 8) (e 9) (e 10) h q := loop_eq (fun e : E => ((e 1, e 2, e 7, e 8, e 9, e 10, ()) : V × V × V × V × V × V × Unit)) (fun (g : V × V × V × V × V × V × Unit → H → Prop) (x : V × V × V × V × V × V × Unit) h => @L4_2 x.1 x.2.1 x.2.2.1 x.2.2.2.1 x.2.2.2.2.1 x.2.2.2.2.2.1 h q ⟨fun y1 y2 y7 y8 y9 y10 h => g (y1, y2, y7, y8, y9, y10, ()) h⟩) (@n4_2 q)
theorem m4_2 [q : Hid (V → H → Prop)] : Mono (fun (g : V × V × V × V × V × V × Unit → H → Prop) (x : V × V × V × V × V × V × Unit) h => @L4_2 x.1 x.2.1 x.2.2.1 x.2.2.2.1 x.2.2.2.2.1 x.2.2.2.2.2.1 h q ⟨fun y1 y2 y7 y8 y9 y10 h => g (y1, y2, y7, y8, y9, y10, ()) h⟩) := mono_of (p := (fun e : E => ((e 1, e 2, e 7, e 8, e 9, e 10, ()) : V × V × V × V × V × V × Unit))) (fun x : V × V × V × V × V × V × Unit => upd (upd (upd (upd (upd (upd (fun _ => undefV) 10 (x.2.2.2.2.2.1)) 9 (x.2.2.2.2.1)) 8 (x.2.2.2.1)) 7 (x.2.2.1)) 2 (x.2.1)) 1 (x.1)) (fun _ => rfl) (@n4_2 q)
theorem W4_2_inv {q : Hid (V → H → Prop)} (I : Nat → V → V → V → V → V → V → H → Prop) (step : ∀ n x1 x2 x7 x8 x9 x10 h, I n x1 x2 x7 x8 x9 x10 h → @L4_2 x1 x2 x7 x8 x9 x10 h q ⟨fun y1 y2 y7 y8 y9 y10 h => ∃ m, m < n ∧ I m y1 y2 y7 y8 y9 y10 h⟩) (n : Nat) (x1 x2 x7 x8 x9 x10 : V) (h : H) (hi : I n x1 x2 x7 x8 x9 x10 h) : @W4_2 x1 x2 x7 x8 x9 x10 h q :=
  wFix_inv (@m4_2 q) (fun n x h => I n x.1 x.2.1 x.2.2.1 x.2.2.2.1 x.2.2.2.2.1 x.2.2.2.2.2.1 h) (fun n x h hi => step n x.1 x.2.1 x.2.2.1 x.2.2.2.1 x.2.2.2.2.1 x.2.2.2.2.2.1 h hi) n (x1, x2, x7, x8, x9, x10, ()) h hi
theorem W4_2_eq (x1 x2 x7 x8 x9 x10 : V) (h : H) {q : Hid (V → H → Prop)} : @W4_2 x1 x2 x7 x8 x9 x10 h q ↔ @L4_2 x1 x2 x7 x8 x9 x10 h q ⟨fun y1 y2 y7 y8 y9 y10 h => @W4_2 y1 y2 y7 y8 y9 y10 h q⟩ := wFix_unroll (@m4_2 q) (x1, x2, x7, x8, x9, x10, ()) h
def K4 (x0 x1 x2 : V) (h : H) [q : Hid (V → H → Prop)] : Prop := @Bnd V (bin .and x0 (.i .i64 1)) ⟨fun v1 => @Bnd V (vCvi .u64 v1) ⟨fun v2 => @Bnd V (bin .shl (.i .i64 2) v2) ⟨fun v3 => @Bnd V (vBld [(.i .i64 0), (.i .i64 0)] [(0, 1, (.i .i64 3)), (1, 1, v3)]) ⟨fun v4 => @Bnd (V × H) (some (.p (some (H.nx h, 0)), H.new h ⟨false, [(.i .i64 0), (.i .i64 0)]⟩)) ⟨fun r5 => @Bnd (V × H) (vStore r5.2 2 r5.1 v4) ⟨fun r6 => @wF IP 19 [v3] r6.2 ⟨fun v7 h8 => @Bnd V (bin .add (.i .i64 3) v7) ⟨fun v9 => @wF IP 12 [v9] h8 ⟨fun v10 h11 => @Bnd V (vLdA h11 2 r5.1) ⟨fun v12 => @wF IP 20 [v10, v12] h11 ⟨fun v13 h14 => @W4_2 x1 x2 v3 r5.1 v10 (.i .i64 0) h14 q⟩⟩⟩⟩⟩⟩⟩⟩⟩⟩⟩
theorem p4 [q : Hid (V → H → Prop)] : den IP c4 (@Q4 q) = fun e h => @K4 (e 0) (e 1) (e 2) h q := by
  refine Eq.trans (seq_eq (seq_eq (seq_eq (seq_eq (seq_eq (seq_eq (@p4_1 q) (seq_eq (block_eq (@w4_2 q)) rfl)) rfl) rfl) rfl) rfl) rfl) ?_
  kernel_rfl
theorem f4 (a0 a1 a2 : V) (h : H) (Q : V → H → Prop) : @wF IP 4 [a0, a1, a2] h ⟨Q⟩ ↔ @K4 a0 a1 a2 h ⟨Q⟩ := (Fnc_den (ip4) (by kernel_rfl) (by kernel_rfl) h Q).trans (iff_of_eq (congrFun (congrFun (@p4 ⟨Q⟩) _) h))
theorem ip12 : IP 12 = some ir12 := rfl
def Q12 [q : Hid (V → H → Prop)] : X → E → H → Prop := Qr rs12 q.un
def Q12_1 [q : Hid (V → H → Prop)] : X → E → H → Prop := (@Q12 q)
def K12_1 (x0 : V) (h : H) [q : Hid (V → H → Prop)] : Prop := @Bnd (V × H) (vMake 8 [(.i .u64 0)] x0 h) ⟨fun r1 => @Bnd V (vBld [.nsl, .nsl, (.i .i64 0)] [(0, 1, r1.1)]) ⟨fun v2 => @Bnd (V × H) (vBox v2 r1.2) ⟨fun r3 => @Hid.un (V → H → Prop) q r3.1 r3.2⟩⟩⟩
def J12_1 [q : Hid (V → H → Prop)] : E → H → Prop := fun e h => @K12_1 (e 0) h q
theorem p12_1 [q : Hid (V → H → Prop)] : den IP c12_1 (@Q12_1 q) = (@J12_1 q) := by kernel_rfl
def Q12_2 [q : Hid (V → H → Prop)] : X → E → H → Prop := (Qx (@J12_1 q) (@Q12 q))
def K12_2 (x0 x8 : V) (h : H) [q : Hid (V → H → Prop)] : Prop := @Sel x8 ⟨@Hid.un (V → H → Prop) q (.p none) h⟩ ⟨@K12_1 x0 h q⟩
def J12_2 [q : Hid (V → H → Prop)] : E → H → Prop := fun e h => @K12_2 (e 0) (e 8) h q
theorem p12_2 [q : Hid (V → H → Prop)] : den IP c12_2 (@Q12_2 q) = (@J12_2 q) := by kernel_rfl
def S12_6 [q : Hid (V → H → Prop)] : E → H → Prop := ((Qx (@J12_2 q) (Qx (@J12_1 q) (@Q12 q))) X.normal)
def K12_6 (x0 x5 x7 : V) (h : H) [q : Hid (V → H → Prop)] : Prop := @Bnd V (vPick x5 (.b true) x7) ⟨fun v1 => @K12_2 x0 v1 h q⟩
def J12_6 [q : Hid (V → H → Prop)] : E → H → Prop := fun e h => @K12_6 (e 0) (e 5) (e 7) h q
theorem p12_6 [q : Hid (V → H → Prop)] : denOps IP o12_3 (@S12_6 q) = (@J12_6 q) := by
  refine Eq.trans (app_eq rfl rfl) ?_
  kernel_rfl
def K12 (x0 : V) (h : H) [q : Hid (V → H → Prop)] : Prop := @Bnd V (bin .lss x0 (.i .i64 1)) ⟨fun v1 => @Grd v1 false ⟨@Bnd V (bin .gtr x0 (.i .i64 16384)) ⟨fun v2 => @K12_6 x0 v1 v2 h q⟩⟩ ⟨@K12_6 x0 v1 undefV h q⟩⟩
theorem p12 [q : Hid (V → H → Prop)] : den IP c12 (@Q12 q) = fun e h => @K12 (e 0) h q := by
  refine Eq.trans (seq_eq (seq_eq (@p12_1 q) (seq_eq (@p12_2 q) (region_eq (app_eq (grp_eq2 5 false rfl (@p12_6 q) rfl) rfl)))) rfl) ?_
  kernel_rfl
theorem f12 (a0 : V) (h : H) (Q : V → H → Prop) : @wF IP 12 [a0] h ⟨Q⟩ ↔ @K12 a0 h ⟨Q⟩ := (Fnc_den (ip12) (by kernel_rfl) (by kernel_rfl) h Q).trans (iff_of_eq (congrFun (congrFun (@p12 ⟨Q⟩) _) h))
theorem ip13 : IP 13 = some ir13 := rfl
def Q13 [q : Hid (V → H → Prop)] : X → E → H → Prop := Qr rs13 q.un
def K13 (x0 x1 : V) (h : H) [q : Hid (V → H → Prop)] : Prop := @Bnd (V × H) (vBox x0 h) ⟨fun r1 => @Bnd (V × H) (vBox x1 r1.2) ⟨fun r2 => @Bnd (V × H) (some (.p (some (H.nx r2.2, 0)), H.new r2.2 ⟨false, [(.i .i64 0), (.i .i64 0), (.i .u64 0), (.i .u64 0), (.i .u64 0), (.i .u64 0), (.i .i64 0), (.b false), (.b false)]⟩)) ⟨fun r3 => @Bnd V (vLdA r3.2 2 r1.1) ⟨fun v4 => @Bnd V (vLdA r3.2 3 r2.1) ⟨fun v5 => @Bnd V (vBld [(.i .i64 0), (.i .i64 0), (.i .u64 0), (.i .u64 0), (.i .u64 0), (.i .u64 0), (.i .i64 0), (.b false), (.b false)] [(0, 2, v4), (2, 3, v5)]) ⟨fun v6 => @Bnd (V × H) (vStore r3.2 9 r3.1 v6) ⟨fun r7 => @Bnd V (vLdA r7.2 9 r3.1) ⟨fun v8 => @Hid.un (V → H → Prop) q v8 r7.2⟩⟩⟩⟩⟩⟩⟩⟩
theorem p13 [q : Hid (V → H → Prop)] : den IP c13 (@Q13 q) = fun e h => @K13 (e 0) (e 1) h q := by kernel_rfl
theorem f13 (a0 a1 : V) (h : H) (Q : V → H → Prop) : @wF IP 13 [a0, a1] h ⟨Q⟩ ↔ @K13 a0 a1 h ⟨Q⟩ := (Fnc_den (ip13) (by kernel_rfl) (by kernel_rfl) h Q).trans (iff_of_eq (congrFun (congrFun (@p13 ⟨Q⟩) _) h))
theorem ip14 : IP 14 = some ir14 := rfl
def Q14 [q : Hid (V → H → Prop)] : X → E → H → Prop := Qr rs14 q.un
def Q14_1 [q : Hid (V → H → Prop)] : X → E → H → Prop := (@Q14 q)
def K14_1 (x2 x4 : V) (h : H) [q : Hid (V → H → Prop)] : Prop := @Bnd V (vLdA h 9 x2) ⟨fun v1 => @Bnd (V × H) (vStore h 9 x4 v1) ⟨fun r2 => @Bnd V (vLdA r2.2 9 x4) ⟨fun v3 => @Hid.un (V → H → Prop) q v3 r2.2⟩⟩⟩
def J14_1 [q : Hid (V → H → Prop)] : E → H → Prop := fun e h => @K14_1 (e 2) (e 4) h q
theorem p14_1 [q : Hid (V → H → Prop)] : den IP c14_1 (@Q14_1 q) = (@J14_1 q) := by kernel_rfl
def K14 (x0 x1 : V) (h : H) [q : Hid (V → H → Prop)] : Prop := @Bnd (V × H) (vBox x0 h) ⟨fun r1 => @Bnd (V × H) (some (.p (some (H.nx r1.2, 0)), H.new r1.2 ⟨false, [(.i .i64 0), (.i .i64 0), (.i .u64 0), (.i .u64 0), (.i .u64 0), (.i .u64 0), (.i .i64 0), (.b false), (.b false)]⟩)) ⟨fun r2 => @Bnd V (vLdA r2.2 9 r1.1) ⟨fun v3 => @wF IP 16 [v3] r2.2 ⟨fun v4 h5 => @Bnd V (vExt v4 0) ⟨fun v6 => @Bnd V (vExt v4 1) ⟨fun v7 => @Sel v7 ⟨@Bnd V (vLdA h5 9 r1.1) ⟨fun v8 => @Bnd (V × H) (vStore h5 9 r2.1 v8) ⟨fun r9 => @Bnd V (vLdA r9.2 9 r2.1) ⟨fun v10 => @Hid.un (V → H → Prop) q v10 r9.2⟩⟩⟩⟩ ⟨@Bnd V (vFa 0 r1.1) ⟨fun v11 => @Bnd V (vLdA h5 2 v11) ⟨fun v12 => @wF IP 50 [v12] h5 ⟨fun v13 h14 => @Bnd V (un .not v13) ⟨fun v15 => @Sel v15 ⟨@Bnd V (vFa 8 r1.1) ⟨fun v16 => @Bnd (V × H) (vStore h14 1 v16 (.b true)) ⟨fun r17 => @Bnd V (vLdA r17.2 9 r1.1) ⟨fun v18 => @Bnd (V × H) (vStore r17.2 9 r2.1 v18) ⟨fun r19 => @Bnd V (vLdA r19.2 9 r2.1) ⟨fun v20 => @Hid.un (V → H → Prop) q v20 r19.2⟩⟩⟩⟩⟩⟩ ⟨@Bnd V (vFa 6 r1.1) ⟨fun v21 => @Bnd V (vLd1 h14 v21) ⟨fun v22 => @Bnd V (bin .eql v22 (.i .i64 0)) ⟨fun v23 => @Sel v23 ⟨@Bnd V (vFa 0 r1.1) ⟨fun v24 => @Bnd V (vLdA h14 2 v24) ⟨fun v25 => @wF IP 52 [v25] h14 ⟨fun v26 h27 => @wF IP 51 [x1, v26] h27 ⟨fun v28 h29 => @Bnd V (vFa 5 r1.1) ⟨fun v30 => @Bnd (V × H) (vStore h29 1 v30 v28) ⟨fun r31 => @Bnd V (vFa 6 r1.1) ⟨fun v32 => @Bnd (V × H) (vStore r31.2 1 v32 (.i .i64 1)) ⟨fun r33 => @K14_1 r1.1 r2.1 r33.2 q⟩⟩⟩⟩⟩⟩⟩⟩⟩ ⟨@Bnd V (bin .eql v22 (.i .i64 1)) ⟨fun v34 => @Sel v34 ⟨@Bnd V (vLdA h14 9 r1.1) ⟨fun v35 => @Bnd V (vFa 0 r1.1) ⟨fun v36 => @Bnd V (vLdA h14 2 v36) ⟨fun v37 => @Bnd V (vFa 5 r1.1) ⟨fun v38 => @Bnd V (vLd1 h14 v38) ⟨fun v39 => @wF IP 54 [v37, v39] h14 ⟨fun v40 h41 => @wF IP 51 [x1, v40] h41 ⟨fun v42 h43 => @wF IP 53 [v35, v42] h43 ⟨fun v44 h45 => @Bnd (V × H) (vStore h45 9 r1.1 v44) ⟨fun r46 => @Chk (stdy true 9 r1.1 h14 h41) ⟨@Chk (stdy true 9 r1.1 h41 h43) ⟨@K14_1 r1.1 r2.1 r46.2 q⟩⟩⟩⟩⟩⟩⟩⟩⟩⟩⟩⟩ ⟨@Bnd V (bin .eql v22 (.i .i64 2)) ⟨fun v47 => @Sel v47 ⟨@Bnd V (vFa 6 r1.1) ⟨fun v48 => @Bnd (V × H) (vStore h14 1 v48 (.i .i64 0)) ⟨fun r49 => @Bnd V (vFa 0 r1.1) ⟨fun v50 => @Bnd V (vLdA r49.2 2 v50) ⟨fun v51 => @wF IP 52 [v51] r49.2 ⟨fun v52 h53 => @Bnd V (vFa 5 r1.1) ⟨fun v54 => @Bnd V (vLd1 h53 v54) ⟨fun v55 => @Bnd V (vFa 5 r1.1) ⟨fun v56 => @Bnd V (vLd1 h53 v56) ⟨fun v57 => @Bnd V (bin .add v57 (.i .u64 1)) ⟨fun v58 => @wF IP 55 [x1, v52, v55, v58] h53 ⟨fun v59 h60 => @Chk (stdy false 1 v54 r49.2 h53) ⟨@Chk (stdy false 1 v56 r49.2 h53) ⟨@Sel v59 ⟨@Bnd V (vFa 6 r1.1) ⟨fun v61 => @Bnd (V × H) (vStore h60 1 v61 (.i .i64 3)) ⟨fun r62 => @K14_1 r1.1 r2.1 r62.2 q⟩⟩⟩ ⟨@K14_1 r1.1 r2.1 h60 q⟩⟩⟩⟩⟩⟩⟩⟩⟩⟩⟩⟩⟩⟩⟩ ⟨@Bnd V (bin .eql v22 (.i .i64 6)) ⟨fun v63 => @Sel v63 ⟨@Bnd V (vFa 0 r1.1) ⟨fun v64 => @Bnd V (vLdA h14 2 v64) ⟨fun v65 => @Bnd V (vFa 5 r1.1) ⟨fun v66 => @Bnd V (vLd1 h14 v66) ⟨fun v67 => @wF IP 54 [v65, v67] h14 ⟨fun v68 h69 => @Bnd V (vFa 5 r1.1) ⟨fun v70 => @Bnd V (vLd1 h69 v70) ⟨fun v71 => @Bnd V (bin .add v71 (.i .u64 1)) ⟨fun v72 => @wF IP 56 [x1, v68, v72] h69 ⟨fun v73 h74 => @Chk (stdy false 1 v70 h14 h69) ⟨@Bnd V (vFa 6 r1.1) ⟨fun v75 => @Bnd (V × H) (vStore h74 1 v75 (.i .i64 7)) ⟨fun r76 => @K14_1 r1.1 r2.1 r76.2 q⟩⟩⟩⟩⟩⟩⟩⟩⟩⟩⟩⟩⟩ ⟨@Bnd V (vFa 6 r1.1) ⟨fun v77 => @Bnd V (vLd1 h14 v77) ⟨fun v78 => @Bnd V (bin .sub v78 (.i .i64 3)) ⟨fun v79 => @Bnd V (vFa 0 r1.1) ⟨fun v80 => @Bnd V (vLdA h14 2 v80) ⟨fun v81 => @Bnd V (vFa 5 r1.1) ⟨fun v82 => @Bnd V (vLd1 h14 v82) ⟨fun v83 => @wF IP 25 [v81, v83, v79] h14 ⟨fun v84 h85 => @Bnd V (vFa 2 r1.1) ⟨fun v86 => @Bnd V (vIaa 1 3 v86 v79) ⟨fun v87 => @Bnd V (vLd1 h85 v87) ⟨fun v88 => @wF IP 56 [x1, v84, v88] h85 ⟨fun v89 h90 => @Chk (stdy false 1 v87 h14 h85) ⟨@Bnd V (vFa 6 r1.1) ⟨fun v91 => @Bnd V (vLd1 h90 v91) ⟨fun v92 => @Bnd V (bin .add v92 (.i .i64 1)) ⟨fun v93 => @Bnd V (vFa 6 r1.1) ⟨fun v94 => @Bnd (V × H) (vStore h90 1 v94 v93) ⟨fun r95 => @K14_1 r1.1 r2.1 r95.2 q⟩⟩⟩⟩⟩⟩⟩⟩⟩⟩⟩⟩⟩⟩⟩⟩⟩⟩⟩⟩⟩⟩⟩⟩⟩⟩⟩⟩⟩⟩⟩⟩⟩⟩⟩⟩⟩⟩⟩⟩
theorem p14 [q : Hid (V → H → Prop)] : den IP c14 (@Q14 q) = fun e h => @K14 (e 0) (e 1) h q := by
  refine Eq.trans (seq_eq (seq_eq (seq_eq (seq_eq (@p14_1 q) rfl) rfl) rfl) rfl) ?_
  kernel_rfl
theorem f14 (a0 a1 : V) (h : H) (Q : V → H → Prop) : @wF IP 14 [a0, a1] h ⟨Q⟩ ↔ @K14 a0 a1 h ⟨Q⟩ := (Fnc_den (ip14) (by kernel_rfl) (by kernel_rfl) h Q).trans (iff_of_eq (congrFun (congrFun (@p14 ⟨Q⟩) _) h))
theorem ip15 : IP 15 = some ir15 := rfl
def Q15 [q : Hid (V → H → Prop)] : X → E → H → Prop := Qr rs15 q.un
def K15 (x0 x1 x2 : V) (h : H) [q : Hid (V → H → Prop)] : Prop := @Bnd (V × H) (vBox x0 h) ⟨fun r1 => @Bnd (V × H) (vBox x1 r1.2) ⟨fun r2 => @Bnd (V × H) (some (.p (some (H.nx r2.2, 0)), H.new r2.2 ⟨false, [(.i .i64 0), (.i .i64 0), (.i .u64 0), (.i .u64 0), (.i .u64 0), (.i .u64 0), (.i .i64 0), (.b false), (.b false)]⟩)) ⟨fun r3 => @Bnd V (vLdA r3.2 2 r1.1) ⟨fun v4 => @Bnd V (vLdA r3.2 3 r2.1) ⟨fun v5 => @Bnd V (vBld [(.i .i64 0), (.i .i64 0), (.i .u64 0), (.i .u64 0), (.i .u64 0), (.i .u64 0), (.i .i64 0), (.b false), (.b false)] [(0, 2, v4), (2, 3, v5), (5, 1, x2), (6, 1, (.i .i64 1)), (7, 1, (.b true))]) ⟨fun v6 => @Bnd (V × H) (vStore r3.2 9 r3.1 v6) ⟨fun r7 => @Bnd V (vLdA r7.2 9 r3.1) ⟨fun v8 => @Hid.un (V → H → Prop) q v8 r7.2⟩⟩⟩⟩⟩⟩⟩⟩
theorem p15 [q : Hid (V → H → Prop)] : den IP c15 (@Q15 q) = fun e h => @K15 (e 0) (e 1) (e 2) h q := by kernel_rfl
theorem f15 (a0 a1 a2 : V) (h : H) (Q : V → H → Prop) : @wF IP 15 [a0, a1, a2] h ⟨Q⟩ ↔ @K15 a0 a1 a2 h ⟨Q⟩ := (Fnc_den (ip15) (by kernel_rfl) (by kernel_rfl) h Q).trans (iff_of_eq (congrFun (congrFun (@p15 ⟨Q⟩) _) h))
theorem ip16 : IP 16 = some ir16 := rfl
def Q16 [q : Hid (V → H → Prop)] : X → E → H → Prop := Qr rs16 q.un
def K16 (x0 : V) (h : H) [q : Hid (V → H → Prop)] : Prop := @Bnd (V × H) (vBox x0 h) ⟨fun r1 => @Bnd V (vFa 8 r1.1) ⟨fun v2 => @Bnd V (vLd1 r1.2 v2) ⟨fun v3 => @Sel v3 ⟨@Hid.un (V → H → Prop) q (.tup [(.i .i64 3), (.b true)]) r1.2⟩ ⟨@Bnd V (vFa 6 r1.1) ⟨fun v4 => @Bnd V (vLd1 r1.2 v4) ⟨fun v5 => @Bnd V (bin .eql v5 (.i .i64 7)) ⟨fun v6 => @Sel v6 ⟨@Hid.un (V → H → Prop) q (.tup [(.i .i64 0), (.b true)]) r1.2⟩ ⟨@Hid.un (V → H → Prop) q (.tup [(.i .i64 0), (.b false)]) r1.2⟩⟩⟩⟩⟩⟩⟩⟩
theorem p16 [q : Hid (V → H → Prop)] : den IP c16 (@Q16 q) = fun e h => @K16 (e 0) h q := by kernel_rfl
theorem f16 (a0 : V) (h : H) (Q : V → H → Prop) : @wF IP 16 [a0] h ⟨Q⟩ ↔ @K16 a0 h ⟨Q⟩ := (Fnc_den (ip16) (by kernel_rfl) (by kernel_rfl) h Q).trans (iff_of_eq (congrFun (congrFun (@p16 ⟨Q⟩) _) h))
theorem ip17 : IP 17 = some ir17 := rfl
def Q17 [q : Hid (V → H → Prop)] : X → E → H → Prop := Qr rs17 q.un
def S17_14 [q : Hid (V → H → Prop)] : E → H → Prop := ((Qx (den IP .ret (@Q17 q)) (@Q17 q)) X.normal)
def K17_14 (x49 x52 : V) (h : H) [q : Hid (V → H → Prop)] : Prop := @Bnd V (vPick x49 x52 (.b false)) ⟨fun v1 => @Hid.un (V → H → Prop) q v1 h⟩
def J17_14 [q : Hid (V → H → Prop)] : E → H → Prop := fun e h => @K17_14 (e 49) (e 52) h q
theorem p17_14 [q : Hid (V → H → Prop)] : denOps IP o17_1 (@S17_14 q) = (@J17_14 q) := by
  refine Eq.trans (app_eq rfl rfl) ?_
  kernel_rfl
def S17_15 [q : Hid (V → H → Prop)] : E → H → Prop := ((Qx (den IP .ret (@Q17 q)) (@Q17 q)) X.normal)
def K17_15 (x1 x44 x47 : V) (h : H) [q : Hid (V → H → Prop)] : Prop := @Bnd V (vPick x44 x47 (.b false)) ⟨fun v1 => @Grd v1 true ⟨@wF IP 24 [x1, (.i .i64 4)] h ⟨fun v2 h3 => @Bnd V (bin .eql v2 (.i .u64 3)) ⟨fun v4 => @K17_14 v1 v4 h3 q⟩⟩⟩ ⟨@K17_14 v1 undefV h q⟩⟩
def J17_15 [q : Hid (V → H → Prop)] : E → H → Prop := fun e h => @K17_15 (e 1) (e 44) (e 47) h q
theorem p17_15 [q : Hid (V → H → Prop)] : denOps IP o17_3 (@S17_15 q) = (@J17_15 q) := by
  refine Eq.trans (app_eq (grp_eq2 49 true rfl (@p17_14 q) rfl) rfl) ?_
  kernel_rfl
def S17_16 [q : Hid (V → H → Prop)] : E → H → Prop := ((Qx (den IP .ret (@Q17 q)) (@Q17 q)) X.normal)
def K17_16 (x1 x39 x42 : V) (h : H) [q : Hid (V → H → Prop)] : Prop := @Bnd V (vPick x39 x42 (.b false)) ⟨fun v1 => @Grd v1 true ⟨@wF IP 24 [x1, (.i .i64 2)] h ⟨fun v2 h3 => @Bnd V (bin .eql v2 (.i .u64 1)) ⟨fun v4 => @K17_15 x1 v1 v4 h3 q⟩⟩⟩ ⟨@K17_15 x1 v1 undefV h q⟩⟩
def J17_16 [q : Hid (V → H → Prop)] : E → H → Prop := fun e h => @K17_16 (e 1) (e 39) (e 42) h q
theorem p17_16 [q : Hid (V → H → Prop)] : denOps IP o17_5 (@S17_16 q) = (@J17_16 q) := by
  refine Eq.trans (app_eq (grp_eq2 44 true rfl (@p17_15 q) rfl) rfl) ?_
  kernel_rfl
def S17_17 [q : Hid (V → H → Prop)] : E → H → Prop := ((Qx (den IP .ret (@Q17 q)) (@Q17 q)) X.normal)
def K17_17 (x1 x2 x35 x37 : V) (h : H) [q : Hid (V → H → Prop)] : Prop := @Bnd V (vPick x35 x37 (.b false)) ⟨fun v1 => @Grd v1 true ⟨@Bnd V (vLdA h 2 x2) ⟨fun v2 => @wF IP 23 [x1, v2, (.i .u64 0)] h ⟨fun v3 h4 => @K17_16 x1 v1 v3 h4 q⟩⟩⟩ ⟨@K17_16 x1 v1 undefV h q⟩⟩
def J17_17 [q : Hid (V → H → Prop)] : E → H → Prop := fun e h => @K17_17 (e 1) (e 2) (e 35) (e 37) h q
theorem p17_17 [q : Hid (V → H → Prop)] : denOps IP o17_7 (@S17_17 q) = (@J17_17 q) := by
  refine Eq.trans (app_eq (grp_eq2 39 true rfl (@p17_16 q) rfl) rfl) ?_
  kernel_rfl
def S17_18 [q : Hid (V → H → Prop)] : E → H → Prop := ((Qx (den IP .ret (@Q17 q)) (@Q17 q)) X.normal)
def K17_18 (x1 x2 x6 x32 x33 : V) (h : H) [q : Hid (V → H → Prop)] : Prop := @Bnd V (vPick x32 x33 (.b false)) ⟨fun v1 => @Grd v1 true ⟨@Bnd V (bin .eql x6 (.i .i64 0)) ⟨fun v2 => @K17_17 x1 x2 v1 v2 h q⟩⟩ ⟨@K17_17 x1 x2 v1 undefV h q⟩⟩
def J17_18 [q : Hid (V → H → Prop)] : E → H → Prop := fun e h => @K17_18 (e 1) (e 2) (e 6) (e 32) (e 33) h q
theorem p17_18 [q : Hid (V → H → Prop)] : denOps IP o17_9 (@S17_18 q) = (@J17_18 q) := by
  refine Eq.trans (app_eq (grp_eq2 35 true rfl (@p17_17 q) rfl) rfl) ?_
  kernel_rfl
def S17_19 [q : Hid (V → H → Prop)] : E → H → Prop := ((Qx (den IP .ret (@Q17 q)) (@Q17 q)) X.normal)
def K17_19 (x1 x2 x6 x7 x28 x30 : V) (h : H) [q : Hid (V → H → Prop)] : Prop := @Bnd V (vPick x28 x30 (.b false)) ⟨fun v1 => @Grd v1 true ⟨@K17_18 x1 x2 x6 v1 x7 h q⟩ ⟨@K17_18 x1 x2 x6 v1 undefV h q⟩⟩
def J17_19 [q : Hid (V → H → Prop)] : E → H → Prop := fun e h => @K17_19 (e 1) (e 2) (e 6) (e 7) (e 28) (e 30) h q
theorem p17_19 [q : Hid (V → H → Prop)] : denOps IP o17_11 (@S17_19 q) = (@J17_19 q) := by
  refine Eq.trans (app_eq (grp_eq2 32 true rfl (@p17_18 q) rfl) rfl) ?_
  kernel_rfl
def K17 (h : H) [q : Hid (V → H → Prop)] : Prop := @wF IP 12 [(.i .i64 9)] h ⟨fun v1 h2 => @Bnd V (vBld [(.i .i64 0), (.i .i64 0)] [(1, 1, (.i .i64 2))]) ⟨fun v3 => @Bnd (V × H) (some (.p (some (H.nx h2, 0)), H.new h2 ⟨false, [(.i .i64 0), (.i .i64 0)]⟩)) ⟨fun r4 => @Bnd (V × H) (vStore r4.2 2 r4.1 v3) ⟨fun r5 => @Bnd V (vLdA r5.2 2 r4.1) ⟨fun v6 => @wF IP 20 [v1, v6] r5.2 ⟨fun v7 h8 => @Bnd V (vLdA h8 2 r4.1) ⟨fun v9 => @Bnd V (vBld [(.i .u64 0), (.i .u64 0), (.i .u64 0)] [(0, 1, (.i .u64 1)), (1, 1, (.i .u64 2)), (2, 1, (.i .u64 3))]) ⟨fun v10 => @wF IP 13 [v9, v10] h8 ⟨fun v11 h12 => @wF IP 21 [v1, v11] h12 ⟨fun v13 h14 => @Bnd V (vExt v13 0) ⟨fun v15 => @Bnd V (vExt v13 1) ⟨fun v16 => @Bnd (V × H) (some (.p (some (H.nx h14, 0)), H.new h14 ⟨false, [(.i .i64 0), (.i .i64 0), (.i .u64 0), (.i .u64 0), (.i .u64 0), (.i .u64 0), (.i .i64 0), (.b false), (.b false)]⟩)) ⟨fun r17 => @Bnd (V × H) (vStore r17.2 9 r17.1 v15) ⟨fun r18 => @Bnd V (vLdA r18.2 9 r17.1) ⟨fun v19 => @wF IP 16 [v19] r18.2 ⟨fun v20 h21 => @Bnd V (vExt v20 0) ⟨fun v22 => @Bnd V (vExt v20 1) ⟨fun v23 => @Bnd V (bin .eql v7 (.i .i64 0)) ⟨fun v24 => @Grd v24 true ⟨@Bnd V (bin .eql v16 (.i .i64 7)) ⟨fun v25 => @K17_19 v1 r4.1 v22 v23 v24 v25 h21 q⟩⟩ ⟨@K17_19 v1 r4.1 v22 v23 v24 undefV h21 q⟩⟩⟩⟩⟩⟩⟩⟩⟩⟩⟩⟩⟩⟩⟩⟩⟩⟩⟩⟩
theorem p17 [q : Hid (V → H → Prop)] : den IP c17 (@Q17 q) = fun e h => @K17 h q := by
  refine Eq.trans (seq_eq (seq_eq (seq_eq (seq_eq (seq_eq (seq_eq (seq_eq rfl (region_eq (app_eq (grp_eq2 28 true rfl (@p17_19 q) rfl) rfl))) rfl) rfl) rfl) rfl) rfl) rfl) ?_
  kernel_rfl
theorem f17 (h : H) (Q : V → H → Prop) : @wF IP 17 [] h ⟨Q⟩ ↔ @K17 h ⟨Q⟩ := (Fnc_den (ip17) (by kernel_rfl) (by kernel_rfl) h Q).trans (iff_of_eq (congrFun (congrFun (@p17 ⟨Q⟩) _) h))
theorem ip18 : IP 18 = some ir18 := rfl
def Q18 [q : Hid (V → H → Prop)] : X → E → H → Prop := Qr rs18 q.un
def S18_4 [q : Hid (V → H → Prop)] : E → H → Prop := ((Qx (den IP .ret (@Q18 q)) (@Q18 q)) X.normal)
def K18_4 (x6 x9 : V) (h : H) [q : Hid (V → H → Prop)] : Prop := @Bnd V (vPick x6 x9 (.b false)) ⟨fun v1 => @Hid.un (V → H → Prop) q v1 h⟩
def J18_4 [q : Hid (V → H → Prop)] : E → H → Prop := fun e h => @K18_4 (e 6) (e 9) h q
theorem p18_4 [q : Hid (V → H → Prop)] : denOps IP o18_1 (@S18_4 q) = (@J18_4 q) := by
  refine Eq.trans (app_eq rfl rfl) ?_
  kernel_rfl
def K18 (x0 : V) (h : H) [q : Hid (V → H → Prop)] : Prop := @Bnd (V × H) (vBox x0 h) ⟨fun r1 => @Bnd V (vFa 8 r1.1) ⟨fun v2 => @Bnd V (vLd1 r1.2 v2) ⟨fun v3 => @Bnd V (un .not v3) ⟨fun v4 => @Grd v4 true ⟨@Bnd V (vFa 6 r1.1) ⟨fun v5 => @Bnd V (vLd1 r1.2 v5) ⟨fun v6 => @Bnd V (bin .geq v6 (.i .i64 3)) ⟨fun v7 => @K18_4 v4 v7 r1.2 q⟩⟩⟩⟩ ⟨@K18_4 v4 undefV r1.2 q⟩⟩⟩⟩⟩
theorem p18 [q : Hid (V → H → Prop)] : den IP c18 (@Q18 q) = fun e h => @K18 (e 0) h q := by
  refine Eq.trans (seq_eq (seq_eq rfl (region_eq (app_eq (grp_eq2 6 true rfl (@p18_4 q) rfl) rfl))) rfl) ?_
  kernel_rfl
theorem f18 (a0 : V) (h : H) (Q : V → H → Prop) : @wF IP 18 [a0] h ⟨Q⟩ ↔ @K18 a0 h ⟨Q⟩ := (Fnc_den (ip18) (by kernel_rfl) (by kernel_rfl) h Q).trans (iff_of_eq (congrFun (congrFun (@p18 ⟨Q⟩) _) h))
theorem ip19 : IP 19 = some ir19 := rfl
def Q19 [q : Hid (V → H → Prop)] : X → E → H → Prop := Qr rs19 q.un
def K19 (x0 : V) (h : H) [q : Hid (V → H → Prop)] : Prop := @Bnd V (foldO max2 x0 [(.i .i64 0)]) ⟨fun v1 => @Bnd V (foldO min2 v1 [(.i .i64 64)]) ⟨fun v2 => @Bnd V (bin .mul v2 (.i .i64 4)) ⟨fun v3 => @Bnd V (bin .add (.i .i64 1) v3) ⟨fun v4 => @Hid.un (V → H → Prop) q v4 h⟩⟩⟩⟩
theorem p19 [q : Hid (V → H → Prop)] : den IP c19 (@Q19 q) = fun e h => @K19 (e 0) h q := by kernel_rfl
theorem f19 (a0 : V) (h : H) (Q : V → H → Prop) : @wF IP 19 [a0] h ⟨Q⟩ ↔ @K19 a0 h ⟨Q⟩ := (Fnc_den (ip19) (by kernel_rfl) (by kernel_rfl) h Q).trans (iff_of_eq (congrFun (congrFun (@p19 ⟨Q⟩) _) h))
theorem ip20 : IP 20 = some ir20 := rfl
def Q20 [q : Hid (V → H → Prop)] : X → E → H → Prop := Qr rs20 q.un
def Q20_1 [q : Hid (V → H → Prop)] : X → E → H → Prop := (@Q20 q)
def Q20_2 [q : Hid (V → H → Prop)] : X → E → H → Prop := (@Q20_1 q)
def K20_2 (h : H) [q : Hid (V → H → Prop)] : Prop := @Hid.un (V → H → Prop) q (.i .i64 0) h
def J20_2 [q : Hid (V → H → Prop)] : E → H → Prop := fun e h => @K20_2 h q
theorem p20_2 [q : Hid (V → H → Prop)] : den IP c20_2 (@Q20_2 q) = (@J20_2 q) := by kernel_rfl
def R20_3 [q : Hid (V → H → Prop)] : X → E → H → Prop := (Qb 0 (Qx (@J20_2 q) (@Q20_1 q)))
def Q20_3 [q : Hid (V → H → Prop)] [g20_3 : Hid (V → V → V → V → H → Prop)] : X → E → H → Prop := Qx (fun e h => g20_3.un (e 0) (e 3) (e 26) (e 27) h) (@R20_3 q)
def Q20_4 [q : Hid (V → H → Prop)] [g20_3 : Hid (V → V → V → V → H → Prop)] : X → E → H → Prop := (@Q20_3 q g20_3)
def K20_4 (x0 x3 x26 x27 : V) (h : H) [q : Hid (V → H → Prop)] [g20_3 : Hid (V → V → V → V → H → Prop)] : Prop := @Bnd V (bin .add x27 (.i .i64 1)) ⟨fun v1 => @Hid.un (V → V → V → V → H → Prop) g20_3 x0 x3 x26 v1 h⟩
def J20_4 [q : Hid (V → H → Prop)] [g20_3 : Hid (V → V → V → V → H → Prop)] : E → H → Prop := fun e h => @K20_4 (e 0) (e 3) (e 26) (e 27) h q g20_3
theorem p20_4 [q : Hid (V → H → Prop)] [g20_3 : Hid (V → V → V → V → H → Prop)] : den IP c20_4 (@Q20_4 q g20_3) = (@J20_4 q g20_3) := by kernel_rfl
def R20_5 [q : Hid (V → H → Prop)] [g20_3 : Hid (V → V → V → V → H → Prop)] : X → E → H → Prop := (Qb 2 (Qb 1 (Qx (@J20_4 q g20_3) (@Q20_3 q g20_3))))
def Q20_5 [q : Hid (V → H → Prop)] [g20_3 : Hid (V → V → V → V → H → Prop)] [g20_5 : Hid (V → V → V → V → V → V → H → Prop)] : X → E → H → Prop := Qx (fun e h => g20_5.un (e 0) (e 3) (e 5) (e 26) (e 27) (e 38) h) (@R20_5 q g20_3)
def L20_5 (x0 x3 x5 x26 x27 x38 : V) (h : H) [q : Hid (V → H → Prop)] [g20_3 : Hid (V → V → V → V → H → Prop)] [g20_5 : Hid (V → V → V → V → V → V → H → Prop)] : Prop := @Bnd V (bin .lss x38 (.i .i64 3)) ⟨fun v1 => @Sel v1 ⟨@Bnd V (vLdA h 2 x3) ⟨fun v2 => @Bnd V (vCvi .u64 x5) ⟨fun v3 => @wF IP 58 [v2, v3] h ⟨fun v4 h5 => @Bnd V (bin .add v4 (.i .i64 1)) ⟨fun v6 => @Bnd V (bin .add v6 x38) ⟨fun v7 => @wF IP 56 [x0, v7, (.i .u64 0)] h5 ⟨fun v8 h9 => @Bnd V (bin .add x38 (.i .i64 1)) ⟨fun v10 => @Hid.un (V → V → V → V → V → V → H → Prop) g20_5 x0 x3 x5 x26 x27 v10 h9⟩⟩⟩⟩⟩⟩⟩⟩ ⟨@K20_4 x0 x3 x26 x27 h q g20_3⟩⟩
theorem p20_5 [q : Hid (V → H → Prop)] [g20_3 : Hid (V → V → V → V → H → Prop)] [g20_5 : Hid (V → V → V → V → V → V → H → Prop)] : den IP c20_5 (@Q20_5 q g20_3 g20_5) = fun e h => @L20_5 (e 0) (e 3) (e 5) (e 26) (e 27) (e 38) h q g20_3 g20_5 := by kernel_rfl
def W20_5 (x0 x3 x5 x26 x27 x38 : V) (h : H) [q : Hid (V → H → Prop)] [g20_3 : Hid (V → V → V → V → H → Prop)] : Prop := wFix (fun (g : V × V × V × V × V × V × Unit → H → Prop) (x : V × V × V × V × V × V × Unit) h => @L20_5 x.1 x.2.1 x.2.2.1 x.2.2.2.1 x.2.2.2.2.1 x.2.2.2.2.2.1 h q g20_3 ⟨fun y0 y3 y5 y26 y27 y38 h => g (y0, y3, y5, y26, y27, y38, ()) h⟩) (x0, x3, x5, x26, x27, x38, ()) h
theorem n20_5 [q : Hid (V → H → Prop)] [g20_3 : Hid (V → V → V → V → H → Prop)] : ∀ g : V × V × V × V × V × V × Unit → H → Prop, den IP c20_5 (Qx (fun e h => g ((fun e : E => ((e 0, e 3, e 5, e 26, e 27, e 38, ()) : V × V × V × V × V × V × Unit)) e) h) (@R20_5 q g20_3)) = fun e h => (fun (g : V × V × V × V × V × V × Unit → H → Prop) (x : V × V × V × V × V × V × Unit) h => @L20_5 x.1 x.2.1 x.2.2.1 x.2.2.2.1 x.2.2.2.2.1 x.2.2.2.2.2.1 h q g20_3 ⟨fun y0 y3 y5 y26 y27 y38 h => g (y0, y3, y5, y26, y27, y38, ()) h⟩) g ((fun e : E => ((e 0, e 3, e 5, e 26, e 27, e 38, ()) : V × V × V × V × V × V × Unit)) e) h := fun g => @p20_5 q g20_3 ⟨fun y0 y3 y5 y26 y27 y38 h => g (y0, y3, y5, y26, y27, y38, ()) h⟩
theorem w20_5 [q : Hid (V → H → Prop)] [g20_3 : Hid (V → V → V → V → H → Prop)] : den IP (.loop c20_5) (@R20_5 q g20_3) = fun e h => @W20_5 (e 0) (e 3) (e 5) (e 26) (e 27) (e 38) h q g20_3 := loop_eq (fun e : E => ((e 0, e 3, e 5, e 26, e 27, e 38, ()) : V × V × V × V × V × V × Unit)) (fun (g : V × V × V × V × V × V × Unit → H → Prop) (x : V × V × V × V × V × V × Unit) h => @L20_5 x.1 x.2.1 x.2.2.1 x.2.2.2.1 x.2.2.2.2.1 x.2.2.2.2.2.1 h q g20_3 ⟨fun y0 y3 y5 y26 y27 y38 h => g (y0, y3, y5, y26, y27, y38, ()) h⟩) (@n20_5 q g20_3)
theorem m20_5 [q : Hid (V → H → Prop)] [g20_3 : Hid (V → V → V → V → H → Prop)] : Mono (fun (g : V × V × V × V × V × V × Unit → H → Prop) (x : V × V × V × V × V × V × Unit) h => @L20_5 x.1 x.2.1 x.2.2.1 x.2.2.2.1 x.2.2.2.2.1 x.2.2.2.2.2.1 h q g20_3 ⟨fun y0 y3 y5 y26 y27 y38 h => g (y0, y3, y5, y26, y27, y38, ()) h⟩) := mono_of (p := (fun e : E => ((e 0, e 3, e 5, e 26, e 27, e 38, ()) : V × V × V × V × V × V × Unit))) (fun x : V × V × V × V × V × V × Unit => upd (upd (upd (upd (upd (upd (fun _ => undefV) 38 (x.2.2.2.2.2.1)) 27 (x.2.2.2.2.1)) 26 (x.2.2.2.1)) 5 (x.2.2.1)) 3 (x.2.1)) 0 (x.1)) (fun _ => rfl) (@n20_5 q g20_3)
theorem W20_5_inv {q : Hid (V → H → Prop)} {g20_3 : Hid (V → V → V → V → H → Prop)} (I : Nat → V → V → V → V → V → V → H → Prop) (step : ∀ n x0 x3 x5 x26 x27 x38 h, I n x0 x3 x5 x26 x27 x38 h → @L20_5 x0 x3 x5 x26 x27 x38 h q g20_3 ⟨fun y0 y3 y5 y26 y27 y38 h => ∃ m, m < n ∧ I m y0 y3 y5 y26 y27 y38 h⟩) (n : Nat) (x0 x3 x5 x26 x27 x38 : V) (h : H) (hi : I n x0 x3 x5 x26 x27 x38 h) : @W20_5 x0 x3 x5 x26 x27 x38 h q g20_3 :=
  wFix_inv (@m20_5 q g20_3) (fun n x h => I n x.1 x.2.1 x.2.2.1 x.2.2.2.1 x.2.2.2.2.1 x.2.2.2.2.2.1 h) (fun n x h hi => step n x.1 x.2.1 x.2.2.1 x.2.2.2.1 x.2.2.2.2.1 x.2.2.2.2.2.1 h hi) n (x0, x3, x5, x26, x27, x38, ()) h hi
theorem W20_5_eq (x0 x3 x5 x26 x27 x38 : V) (h : H) {q : Hid (V → H → Prop)} {g20_3 : Hid (V → V → V → V → H → Prop)} : @W20_5 x0 x3 x5 x26 x27 x38 h q g20_3 ↔ @L20_5 x0 x3 x5 x26 x27 x38 h q g20_3 ⟨fun y0 y3 y5 y26 y27 y38 h => @W20_5 y0 y3 y5 y26 y27 y38 h q g20_3⟩ := wFix_unroll (@m20_5 q g20_3) (x0, x3, x5, x26, x27, x38, ()) h
def L20_3 (x0 x3 x26 x27 : V) (h : H) [q : Hid (V → H → Prop)] [g20_3 : Hid (V → V → V → V → H → Prop)] : Prop := @Bnd V (bin .lss x27 x26) ⟨fun v1 => @Sel v1 ⟨@Bnd V (vLdA h 2 x3) ⟨fun v2 => @Bnd V (vCvi .u64 x27) ⟨fun v3 => @wF IP 58 [v2, v3] h ⟨fun v4 h5 => @Bnd V (vCvi .u64 x27) ⟨fun v6 => @wF IP 56 [x0, v4, v6] h5 ⟨fun v7 h8 => @W20_5 x0 x3 x27 x26 x27 (.i .i64 0) h8 q g20_3⟩⟩⟩⟩⟩⟩ ⟨@K20_2 h q⟩⟩
theorem p20_3 [q : Hid (V → H → Prop)] [g20_3 : Hid (V → V → V → V → H → Prop)] : den IP c20_3 (@Q20_3 q g20_3) = fun e h => @L20_3 (e 0) (e 3) (e 26) (e 27) h q g20_3 := by
  refine Eq.trans (seq_eq (seq_eq (seq_eq (@p20_4 q g20_3) (block_eq (seq_eq (seq_eq (seq_eq (block_eq (@w20_5 q g20_3)) rfl) rfl) rfl))) rfl) rfl) ?_
  kernel_rfl
def W20_3 (x0 x3 x26 x27 : V) (h : H) [q : Hid (V → H → Prop)] : Prop := wFix (fun (g : V × V × V × V × Unit → H → Prop) (x : V × V × V × V × Unit) h => @L20_3 x.1 x.2.1 x.2.2.1 x.2.2.2.1 h q ⟨fun y0 y3 y26 y27 h => g (y0, y3, y26, y27, ()) h⟩) (x0, x3, x26, x27, ()) h
theorem n20_3 [q : Hid (V → H → Prop)] : ∀ g : V × V × V × V × Unit → H → Prop, den IP c20_3 (Qx (fun e h => g ((fun e : E => ((e 0, e 3, e 26, e 27, ()) : V × V × V × V × Unit)) e) h) (@R20_3 q)) = fun e h => (fun (g : V × V × V × V × Unit → H → Prop) (x : V × V × V × V × Unit) h => @L20_3 x.1 x.2.1 x.2.2.1 x.2.2.2.1 h q ⟨fun y0 y3 y26 y27 h => g (y0, y3, y26, y27, ()) h⟩) g ((fun e : E => ((e 0, e 3, e 26, e 27, ()) : V × V × V × V × Unit)) e) h := fun g => @p20_3 q ⟨fun y0 y3 y26 y27 h => g (y0, y3, y26, y27, ()) h⟩
theorem w20_3 [q : Hid (V → H → Prop)] : den IP (.loop c20_3) (@R20_3 q) = fun e h => @W20_3 (e 0) (e 3) (e 26) (e 27) h q := loop_eq (fun e : E => ((e 0, e 3, e 26, e 27, ()) : V × V × V × V × Unit)) (fun (g : V × V × V × V × Unit → H → Prop) (x : V × V × V × V × Unit) h => @L20_3 x.1 x.2.1 x.2.2.1 x.2.2.2.1 h q ⟨fun y0 y3 y26 y27 h => g (y0, y3, y26, y27, ()) h⟩) (@n20_3 q)
theorem m20_3 [q : Hid (V → H → Prop)] : Mono (fun (g : V × V × V × V × Unit → H → Prop) (x : V × V × V × V × Unit) h => @L20_3 x.1 x.2.1 x.2.2.1 x.2.2.2.1 h q ⟨fun y0 y3 y26 y27 h => g (y0, y3, y26, y27, ()) h⟩) := mono_of (p := (fun e : E => ((e 0, e 3, e 26, e 27, ()) : V × V × V × V × Unit))) (fun x : V × V × V × V × Unit => upd (upd (upd (upd (fun _ => undefV) 27 (x.2.2.2.1)) 26 (x.2.2.1)) 3 (x.2.1)) 0 (x.1)) (fun _ => rfl) (@n20_3 q)
theorem W20_3_inv {q : Hid (V → H → Prop)} (I : Nat → V → V → V → V → H → Prop) (step : ∀ n x0 x3 x26 x27 h, I n x0 x3 x26 x27 h → @L20_3 x0 x3 x26 x27 h q ⟨fun y0 y3 y26 y27 h => ∃ m, m < n ∧ I m y0 y3 y26 y27 h⟩) (n : Nat) (x0 x3 x26 x27 : V) (h : H) (hi : I n x0 x3 x26 x27 h) : @W20_3 x0 x3 x26 x27 h q :=
  wFix_inv (@m20_3 q) (fun n x h => I n x.1 x.2.1 x.2.2.1 x.2.2.2.1 h) (fun n x h hi => step n x.1 x.2.1 x.2.2.1 x.2.2.2.1 h hi) n (x0, x3, x26, x27, ()) h hi
theorem W20_3_eq (x0 x3 x26 x27 : V) (h : H) {q : Hid (V → H → Prop)} : @W20_3 x0 x3 x26 x27 h q ↔ @L20_3 x0 x3 x26 x27 h q ⟨fun y0 y3 y26 y27 h => @W20_3 y0 y3 y26 y27 h q⟩ := wFix_unroll (@m20_3 q) (x0, x3, x26, x27, ()) h
def K20_1 (x0 x3 : V) (h : H) [q : Hid (V → H → Prop)] : Prop := @Bnd V (vFa 0 x3) ⟨fun v1 => @Bnd V (vLd1 h v1) ⟨fun v2 => @wF IP 56 [x0, v2, (.i .u64 0)] h ⟨fun v3 h4 => @Bnd V (vFa 1 x3) ⟨fun v5 => @Bnd V (vLd1 h4 v5) ⟨fun v6 => @W20_3 x0 x3 v6 (.i .i64 0) h4 q⟩⟩⟩⟩⟩
def J20_1 [q : Hid (V → H → Prop)] : E → H → Prop := fun e h => @K20_1 (e 0) (e 3) h q
theorem p20_1 [q : Hid (V → H → Prop)] : den IP c20_1 (@Q20_1 q) = (@J20_1 q) := by
  refine Eq.trans (seq_eq (seq_eq (@p20_2 q) (seq_eq (block_eq (@w20_3 q)) rfl)) rfl) ?_
  kernel_rfl
def Q20_6 [q : Hid (V → H → Prop)] : X → E → H → Prop := (Qx (@J20_1 q) (@Q20 q))
def K20_6 (x0 x3 x20 : V) (h : H) [q : Hid (V → H → Prop)] : Prop := @Sel x20 ⟨@Hid.un (V → H → Prop) q (.i .i64 1) h⟩ ⟨@K20_1 x0 x3 h q⟩
def J20_6 [q : Hid (V → H → Prop)] : E → H → Prop := fun e h => @K20_6 (e 0) (e 3) (e 20) h q
theorem p20_6 [q : Hid (V → H → Prop)] : den IP c20_6 (@Q20_6 q) = (@J20_6 q) := by kernel_rfl
def S20_10 [q : Hid (V → H → Prop)] : List (E × H) → E → H → Prop := (fun st e h => chkAll o20_9 ((e, h) :: st) 14 [(5, 8), (5, 11)] ((Qx (@J20_6 q) (Qx (@J20_1 q) (@Q20 q))) X.normal e h))
def K20_10 (k11_h : H) (k12_h : H) (k5_10 : V) (k5_11 : V) (k8_h : H) (k9_h : H) (x0 x3 x10 x19 : V) (h : H) [q : Hid (V → H → Prop)] : Prop := @Bnd V (vPick x10 (.b true) x19) ⟨fun v1 => @Chk (stdyG k5_10 false (stdy false 1 k5_11 k8_h k9_h)) ⟨@Chk (stdyG k5_10 false (stdy false 1 k5_11 k11_h k12_h)) ⟨@K20_6 x0 x3 v1 h q⟩⟩⟩
def J20_10 [q : Hid (V → H → Prop)] : List (E × H) → E → H → Prop := fun st e h => @K20_10 (List.getD st 1 eh0).2 (List.getD st 0 eh0).2 ((List.getD st 7 eh0).1 10) ((List.getD st 7 eh0).1 11) (List.getD st 4 eh0).2 (List.getD st 3 eh0).2 (e 0) (e 3) (e 10) (e 19) h q
theorem p20_10 [q : Hid (V → H → Prop)] : denT2 IP o20_7 (@S20_10 q) = (@J20_10 q) := by
  refine Eq.trans (tapp_eq rfl rfl) ?_
  kernel_rfl
def K20 (x0 x1 : V) (h : H) [q : Hid (V → H → Prop)] : Prop := @Bnd (V × H) (vBox x1 h) ⟨fun r1 => @Bnd V (vLdA r1.2 2 r1.1) ⟨fun v2 => @wF IP 50 [v2] r1.2 ⟨fun v3 h4 => @Bnd V (un .not v3) ⟨fun v5 => @Grd v5 false ⟨@Bnd V (vFa 0 r1.1) ⟨fun v6 => @Bnd V (vLd1 h4 v6) ⟨fun v7 => @Bnd V (vFa 1 r1.1) ⟨fun v8 => @Bnd V (vLd1 h4 v8) ⟨fun v9 => @wF IP 19 [v9] h4 ⟨fun v10 h11 => @Bnd V (bin .add v7 v10) ⟨fun v12 => @wF IP 57 [x0] h11 ⟨fun v13 h14 => @Bnd V (bin .gtr v12 v13) ⟨fun v15 => @K20_10 h11 h14 v5 v6 h4 h11 x0 r1.1 v5 v15 h14 q⟩⟩⟩⟩⟩⟩⟩⟩⟩ ⟨@K20_10 h4 h4 v5 undefV h4 h4 x0 r1.1 v5 undefV h4 q⟩⟩⟩⟩⟩
theorem p20 [q : Hid (V → H → Prop)] : den IP c20 (@Q20 q) = fun e h => @K20 (e 0) (e 1) h q := by
  refine Eq.trans (seq_eq (seq_eq (@p20_1 q) (seq_eq (@p20_6 q) (draw_eq (tapp_eq (tgrp_eq2 10 false rfl (@p20_10 q) rfl) rfl)))) rfl) ?_
  kernel_rfl
theorem f20 (a0 a1 : V) (h : H) (Q : V → H → Prop) : @wF IP 20 [a0, a1] h ⟨Q⟩ ↔ @K20 a0 a1 h ⟨Q⟩ := (Fnc_den (ip20) (by kernel_rfl) (by kernel_rfl) h Q).trans (iff_of_eq (congrFun (congrFun (@p20 ⟨Q⟩) _) h))
theorem ip21 : IP 21 = some ir21 := rfl
def Q21 [q : Hid (V → H → Prop)] : X → E → H → Prop := Qr rs21 q.un
def Q21_1 [q : Hid (V → H → Prop)] : X → E → H → Prop := (@Q21 q)
def K21_1 (x4 x5 : V) (h : H) [q : Hid (V → H → Prop)] : Prop := @Bnd V (vLdA h 9 x4) ⟨fun v1 => @Bnd (V × H) (vStore h 9 x4 v1) ⟨fun r2 => @Bnd V (vLdA r2.2 9 x4) ⟨fun v3 => @Hid.un (V → H → Prop) q (.tup [v3, x5]) r2.2⟩⟩⟩
def J21_1 [q : Hid (V → H → Prop)] : E → H → Prop := fun e h => @K21_1 (e 4) (e 5) h q
theorem p21_1 [q : Hid (V → H → Prop)] : den IP c21_1 (@Q21_1 q) = (@J21_1 q) := by kernel_rfl
def R21_2 [q : Hid (V → H → Prop)] : X → E → H → Prop := (Qb 0 (Qx (@J21_1 q) (@Q21 q)))
def Q21_2 [q : Hid (V → H → Prop)] [g21_2 : Hid (V → V → V → H → Prop)] : X → E → H → Prop := Qx (fun e h => g21_2.un (e 0) (e 4) (e 5) h) (@R21_2 q)
def L21_2 (x0 x4 x5 : V) (h : H) [q : Hid (V → H → Prop)] [g21_2 : Hid (V → V → V → H → Prop)] : Prop := @Bnd V (bin .lss x5 (.i .i64 40)) ⟨fun v1 => @Sel v1 ⟨@Bnd V (vLdA h 9 x4) ⟨fun v2 => @wF IP 16 [v2] h ⟨fun v3 h4 => @Bnd V (vExt v3 0) ⟨fun v5 => @Bnd V (vExt v3 1) ⟨fun v6 => @Sel v6 ⟨@Bnd V (vLdA h4 9 x4) ⟨fun v7 => @Bnd (V × H) (vStore h4 9 x4 v7) ⟨fun r8 => @Bnd V (vLdA r8.2 9 x4) ⟨fun v9 => @Hid.un (V → H → Prop) q (.tup [v9, x5]) r8.2⟩⟩⟩⟩ ⟨@wF IP 27 [x0] h4 ⟨fun v10 h11 => @Bnd V (vLdA h11 9 x4) ⟨fun v12 => @wF IP 14 [v12, x0] h11 ⟨fun v13 h14 => @Bnd (V × H) (vStore h14 9 x4 v13) ⟨fun r15 => @wF IP 31 [x0] r15.2 ⟨fun v16 h17 => @Bnd V (vLens v16) ⟨fun v18 => @Bnd V (bin .neq v18 (.i .i64 1)) ⟨fun v19 => @Sel v19 ⟨@Bnd V (vLdA h17 9 x4) ⟨fun v20 => @Bnd (V × H) (vStore h17 9 x4 v20) ⟨fun r21 => @Bnd V (vLdA r21.2 9 x4) ⟨fun v22 => @Hid.un (V → H → Prop) q (.tup [v22, (.i .i64 (-1))]) r21.2⟩⟩⟩⟩ ⟨@Bnd V (bin .add x5 (.i .i64 1)) ⟨fun v23 => @Hid.un (V → V → V → H → Prop) g21_2 x0 x4 v23 h17⟩⟩⟩⟩⟩⟩⟩⟩⟩⟩⟩⟩⟩⟩⟩ ⟨@K21_1 x4 x5 h q⟩⟩
theorem p21_2 [q : Hid (V → H → Prop)] [g21_2 : Hid (V → V → V → H → Prop)] : den IP c21_2 (@Q21_2 q g21_2) = fun e h => @L21_2 (e 0) (e 4) (e 5) h q g21_2 := by kernel_rfl
def W21_2 (x0 x4 x5 : V) (h : H) [q : Hid (V → H → Prop)] : Prop := wFix (fun (g : V × V × V × Unit → H → Prop) (x : V × V × V × Unit) h => @L21_2 x.1 x.2.1 x.2.2.1 h q ⟨fun y0 y4 y5 h => g (y0, y4, y5, ()) h⟩) (x0, x4, x5, ()) h
theorem n21_2 [q : Hid (V → H → Prop)] : ∀ g : V × V × V × Unit → H → Prop, den IP c21_2 (Qx (fun e h => g ((fun e : E => ((e 0, e 4, e 5, ()) : V × V × V × Unit)) e) h) (@R21_2 q)) = fun e h => (fun (g : V × V × V × Unit → H → Prop) (x : V × V × V × Unit) h => @L21_2 x.1 x.2.1 x.2.2.1 h q ⟨fun y0 y4 y5 h => g (y0, y4, y5, ()) h⟩) g ((fun e : E => ((e 0, e 4, e 5, ()) : V × V × V × Unit)) e) h := fun g => @p21_2 q ⟨fun y0 y4 y5 h => g (y0, y4, y5, ()) h⟩
theorem w21_2 [q : Hid (V → H → Prop)] : den IP (.loop c21_2) (@R21_2 q) = fun e h => @W21_2 (e 0) (e 4) (e 5) h q := loop_eq (fun e : E => ((e 0, e 4, e 5, ()) : V × V × V × Unit)) (fun (g : V × V × V × Unit → H → Prop) (x : V × V × V × Unit) h => @L21_2 x.1 x.2.1 x.2.2.1 h q ⟨fun y0 y4 y5 h => g (y0, y4, y5, ()) h⟩) (@n21_2 q)
theorem m21_2 [q : Hid (V → H → Prop)] : Mono (fun (g : V × V × V × Unit → H → Prop) (x : V × V × V × Unit) h => @L21_2 x.1 x.2.1 x.2.2.1 h q ⟨fun y0 y4 y5 h => g (y0, y4, y5, ()) h⟩) := mono_of (p := (fun e : E => ((e 0, e 4, e 5, ()) : V × V × V × Unit))) (fun x : V × V × V × Unit => upd (upd (upd (fun _ => undefV) 5 (x.2.2.1)) 4 (x.2.1)) 0 (x.1)) (fun _ => rfl) (@n21_2 q)
theorem W21_2_inv {q : Hid (V → H → Prop)} (I : Nat → V → V → V → H → Prop) (step : ∀ n x0 x4 x5 h, I n x0 x4 x5 h → @L21_2 x0 x4 x5 h q ⟨fun y0 y4 y5 h => ∃ m, m < n ∧ I m y0 y4 y5 h⟩) (n : Nat) (x0 x4 x5 : V) (h : H) (hi : I n x0 x4 x5 h) : @W21_2 x0 x4 x5 h q :=
  wFix_inv (@m21_2 q) (fun n x h => I n x.1 x.2.1 x.2.2.1 h) (fun n x h hi => step n x.1 x.2.1 x.2.2.1 h hi) n (x0, x4, x5, ()) h hi
theorem W21_2_eq (x0 x4 x5 : V) (h : H) {q : Hid (V → H → Prop)} : @W21_2 x0 x4 x5 h q ↔ @L21_2 x0 x4 x5 h q ⟨fun y0 y4 y5 h => @W21_2 y0 y4 y5 h q⟩ := wFix_unroll (@m21_2 q) (x0, x4, x5, ()) h
def K21 (x0 x1 : V) (h : H) [q : Hid (V → H → Prop)] : Prop := @Bnd (V × H) (vBox x1 h) ⟨fun r1 => @Bnd (V × H) (some (.p (some (H.nx r1.2, 0)), H.new r1.2 ⟨false, [(.i .i64 0), (.i .i64 0), (.i .u64 0), (.i .u64 0), (.i .u64 0), (.i .u64 0), (.i .i64 0), (.b false), (.b false)]⟩)) ⟨fun r2 => @Bnd V (vLdA r2.2 9 r1.1) ⟨fun v3 => @Bnd (V × H) (vStore r2.2 9 r2.1 v3) ⟨fun r4 => @W21_2 x0 r2.1 (.i .i64 0) r4.2 q⟩⟩⟩⟩
theorem p21 [q : Hid (V → H → Prop)] : den IP c21 (@Q21 q) = fun e h => @K21 (e 0) (e 1) h q := by
  refine Eq.trans (seq_eq (seq_eq (@p21_1 q) (seq_eq (block_eq (@w21_2 q)) rfl)) rfl) ?_
  kernel_rfl
theorem f21 (a0 a1 : V) (h : H) (Q : V → H → Prop) : @wF IP 21 [a0, a1] h ⟨Q⟩ ↔ @K21 a0 a1 h ⟨Q⟩ := (Fnc_den (ip21) (by kernel_rfl) (by kernel_rfl) h Q).trans (iff_of_eq (congrFun (congrFun (@p21 ⟨Q⟩) _) h))
theorem ip22 : IP 22 = some ir22 := rfl
def Q22 [q : Hid (V → H → Prop)] : X → E → H → Prop := Qr rs22 q.un
def K22 (x0 : V) (h : H) [q : Hid (V → H → Prop)] : Prop := @Bnd (V × H) (vBox x0 h) ⟨fun r1 => @Bnd V (vFa 5 r1.1) ⟨fun v2 => @Bnd V (vLd1 r1.2 v2) ⟨fun v3 => @Hid.un (V → H → Prop) q v3 r1.2⟩⟩⟩
theorem p22 [q : Hid (V → H → Prop)] : den IP c22 (@Q22 q) = fun e h => @K22 (e 0) h q := by kernel_rfl
theorem f22 (a0 : V) (h : H) (Q : V → H → Prop) : @wF IP 22 [a0] h ⟨Q⟩ ↔ @K22 a0 h ⟨Q⟩ := (Fnc_den (ip22) (by kernel_rfl) (by kernel_rfl) h Q).trans (iff_of_eq (congrFun (congrFun (@p22 ⟨Q⟩) _) h))
theorem ip23 : IP 23 = some ir23 := rfl
def Q23 [q : Hid (V → H → Prop)] : X → E → H → Prop := Qr rs23 q.un
def S23_4 [q : Hid (V → H → Prop)] : E → H → Prop := ((Qx (den IP .ret (@Q23 q)) (@Q23 q)) X.normal)
def K23_4 (x9 x17 : V) (h : H) [q : Hid (V → H → Prop)] : Prop := @Bnd V (vPick x9 x17 (.b false)) ⟨fun v1 => @Hid.un (V → H → Prop) q v1 h⟩
def J23_4 [q : Hid (V → H → Prop)] : E → H → Prop := fun e h => @K23_4 (e 9) (e 17) h q
theorem p23_4 [q : Hid (V → H → Prop)] : denOps IP o23_1 (@S23_4 q) = (@J23_4 q) := by
  refine Eq.trans (app_eq rfl rfl) ?_
  kernel_rfl
def K23 (x0 x1 x2 : V) (h : H) [q : Hid (V → H → Prop)] : Prop := @Bnd (V × H) (vBox x1 h) ⟨fun r1 => @Bnd V (vLdA r1.2 2 r1.1) ⟨fun v2 => @wF IP 50 [v2] r1.2 ⟨fun v3 h4 => @Grd v3 true ⟨@Bnd V (vLdA h4 2 r1.1) ⟨fun v5 => @wF IP 58 [v5, x2] h4 ⟨fun v6 h7 => @wF IP 24 [x0, v6] h7 ⟨fun v8 h9 => @Bnd V (bin .add x2 (.i .u64 1)) ⟨fun v10 => @Bnd V (bin .eql v8 v10) ⟨fun v11 => @K23_4 v3 v11 h9 q⟩⟩⟩⟩⟩⟩ ⟨@K23_4 v3 undefV h4 q⟩⟩⟩⟩
theorem p23 [q : Hid (V → H → Prop)] : den IP c23 (@Q23 q) = fun e h => @K23 (e 0) (e 1) (e 2) h q := by
  refine Eq.trans (seq_eq (seq_eq rfl (region_eq (app_eq (grp_eq2 9 true rfl (@p23_4 q) rfl) rfl))) rfl) ?_
  kernel_rfl
theorem f23 (a0 a1 a2 : V) (h : H) (Q : V → H → Prop) : @wF IP 23 [a0, a1, a2] h ⟨Q⟩ ↔ @K23 a0 a1 a2 h ⟨Q⟩ := (Fnc_den (ip23) (by kernel_rfl) (by kernel_rfl) h Q).trans (iff_of_eq (congrFun (congrFun (@p23 ⟨Q⟩) _) h))
theorem ip24 : IP 24 = some ir24 := rfl
def Q24 [q : Hid (V → H → Prop)] : X → E → H → Prop := Qr rs24 q.un
def Q24_1 [q : Hid (V → H → Prop)] : X → E → H → Prop := (@Q24 q)
def K24_1 (x0 x1 : V) (h : H) [q : Hid (V → H → Prop)] : Prop := @Bnd V (vNilc x0) ⟨fun v1 => @Bnd V (vFa 0 v1) ⟨fun v2 => @Bnd V (vLd1 h v2) ⟨fun v3 => @Bnd V (vIa 1 v3 x1) ⟨fun v4 => @Bnd V (vLd1 h v4) ⟨fun v5 => @Hid.un (V → H → Prop) q v5 h⟩⟩⟩⟩⟩
def J24_1 [q : Hid (V → H → Prop)] : E → H → Prop := fun e h => @K24_1 (e 0) (e 1) h q
theorem p24_1 [q : Hid (V → H → Prop)] : den IP c24_1 (@Q24_1 q) = (@J24_1 q) := by kernel_rfl
def Q24_2 [q : Hid (V → H → Prop)] : X → E → H → Prop := (Qx (@J24_1 q) (@Q24 q))
def K24_2 (x0 x1 x12 : V) (h : H) [q : Hid (V → H → Prop)] : Prop := @Sel x12 ⟨@Hid.un (V → H → Prop) q (.i .u64 0) h⟩ ⟨@K24_1 x0 x1 h q⟩
def J24_2 [q : Hid (V → H → Prop)] : E → H → Prop := fun e h => @K24_2 (e 0) (e 1) (e 12) h q
theorem p24_2 [q : Hid (V → H → Prop)] : den IP c24_2 (@Q24_2 q) = (@J24_2 q) := by kernel_rfl
def S24_6 [q : Hid (V → H → Prop)] : E → H → Prop := ((Qx (@J24_2 q) (Qx (@J24_1 q) (@Q24 q))) X.normal)
def K24_6 (x0 x1 x7 x11 : V) (h : H) [q : Hid (V → H → Prop)] : Prop := @Bnd V (vPick x7 (.b true) x11) ⟨fun v1 => @K24_2 x0 x1 v1 h q⟩
def J24_6 [q : Hid (V → H → Prop)] : E → H → Prop := fun e h => @K24_6 (e 0) (e 1) (e 7) (e 11) h q
theorem p24_6 [q : Hid (V → H → Prop)] : denOps IP o24_3 (@S24_6 q) = (@J24_6 q) := by
  refine Eq.trans (app_eq rfl rfl) ?_
  kernel_rfl
def K24 (x0 x1 : V) (h : H) [q : Hid (V → H → Prop)] : Prop := @Bnd V (bin .lss x1 (.i .i64 0)) ⟨fun v1 => @Grd v1 false ⟨@wF IP 57 [x0] h ⟨fun v2 h3 => @Bnd V (bin .geq x1 v2) ⟨fun v4 => @K24_6 x0 x1 v1 v4 h3 q⟩⟩⟩ ⟨@K24_6 x0 x1 v1 undefV h q⟩⟩
theorem p24 [q : Hid (V → H → Prop)] : den IP c24 (@Q24 q) = fun e h => @K24 (e 0) (e 1) h q := by
  refine Eq.trans (seq_eq (seq_eq (@p24_1 q) (seq_eq (@p24_2 q) (region_eq (app_eq (grp_eq2 7 false rfl (@p24_6 q) rfl) rfl)))) rfl) ?_
  kernel_rfl
theorem f24 (a0 a1 : V) (h : H) (Q : V → H → Prop) : @wF IP 24 [a0, a1] h ⟨Q⟩ ↔ @K24 a0 a1 h ⟨Q⟩ := (Fnc_den (ip24) (by kernel_rfl) (by kernel_rfl) h Q).trans (iff_of_eq (congrFun (congrFun (@p24 ⟨Q⟩) _) h))
theorem ip25 : IP 25 = some ir25 := rfl
def Q25 [q : Hid (V → H → Prop)] : X → E → H → Prop := Qr rs25 q.un
def Q25_1 [q : Hid (V → H → Prop)] : X → E → H → Prop := (@Q25 q)
def K25_1 (x1 x2 x3 : V) (h : H) [q : Hid (V → H → Prop)] : Prop := @Bnd V (vLdA h 2 x3) ⟨fun v1 => @wF IP 58 [v1, x1] h ⟨fun v2 h3 => @Bnd V (bin .add v2 (.i .i64 1)) ⟨fun v4 => @Bnd V (bin .add v4 x2) ⟨fun v5 => @Hid.un (V → H → Prop) q v5 h3⟩⟩⟩⟩
def J25_1 [q : Hid (V → H → Prop)] : E → H → Prop := fun e h => @K25_1 (e 1) (e 2) (e 3) h q
theorem p25_1 [q : Hid (V → H → Prop)] : den IP c25_1 (@Q25_1 q) = (@J25_1 q) := by kernel_rfl
def Q25_2 [q : Hid (V → H → Prop)] : X → E → H → Prop := (Qx (@J25_1 q) (@Q25 q))
def K25_2 (x1 x2 x3 x17 : V) (h : H) [q : Hid (V → H → Prop)] : Prop := @Sel x17 ⟨@Hid.un (V → H → Prop) q (.i .i64 (-1)) h⟩ ⟨@K25_1 x1 x2 x3 h q⟩
def J25_2 [q : Hid (V → H → Prop)] : E → H → Prop := fun e h => @K25_2 (e 1) (e 2) (e 3) (e 17) h q
theorem p25_2 [q : Hid (V → H → Prop)] : den IP c25_2 (@Q25_2 q) = (@J25_2 q) := by kernel_rfl
def S25_8 [q : Hid (V → H → Prop)] : E → H → Prop := ((Qx (@J25_2 q) (Qx (@J25_1 q) (@Q25 q))) X.normal)
def K25_8 (x1 x2 x3 x14 x16 : V) (h : H) [q : Hid (V → H → Prop)] : Prop := @Bnd V (vPick x14 (.b true) x16) ⟨fun v1 => @K25_2 x1 x2 x3 v1 h q⟩
def J25_8 [q : Hid (V → H → Prop)] : E → H → Prop := fun e h => @K25_8 (e 1) (e 2) (e 3) (e 14) (e 16) h q
theorem p25_8 [q : Hid (V → H → Prop)] : denOps IP o25_3 (@S25_8 q) = (@J25_8 q) := by
  refine Eq.trans (app_eq rfl rfl) ?_
  kernel_rfl
def S25_9 [q : Hid (V → H → Prop)] : E → H → Prop := ((Qx (@J25_2 q) (Qx (@J25_1 q) (@Q25 q))) X.normal)
def K25_9 (x1 x2 x3 x10 x12 : V) (h : H) [q : Hid (V → H → Prop)] : Prop := @Bnd V (vPick x10 (.b true) x12) ⟨fun v1 => @Grd v1 false ⟨@Bnd V (bin .geq x2 (.i .i64 3)) ⟨fun v2 => @K25_8 x1 x2 x3 v1 v2 h q⟩⟩ ⟨@K25_8 x1 x2 x3 v1 undefV h q⟩⟩
def J25_9 [q : Hid (V → H → Prop)] : E → H → Prop := fun e h => @K25_9 (e 1) (e 2) (e 3) (e 10) (e 12) h q
theorem p25_9 [q : Hid (V → H → Prop)] : denOps IP o25_5 (@S25_9 q) = (@J25_9 q) := by
  refine Eq.trans (app_eq (grp_eq2 14 false rfl (@p25_8 q) rfl) rfl) ?_
  kernel_rfl
def K25 (x0 x1 x2 : V) (h : H) [q : Hid (V → H → Prop)] : Prop := @Bnd (V × H) (vBox x0 h) ⟨fun r1 => @Bnd V (vLdA r1.2 2 r1.1) ⟨fun v2 => @wF IP 50 [v2] r1.2 ⟨fun v3 h4 => @Bnd V (un .not v3) ⟨fun v5 => @Grd v5 false ⟨@Bnd V (bin .lss x2 (.i .i64 0)) ⟨fun v6 => @K25_9 x1 x2 r1.1 v5 v6 h4 q⟩⟩ ⟨@K25_9 x1 x2 r1.1 v5 undefV h4 q⟩⟩⟩⟩⟩
theorem p25 [q : Hid (V → H → Prop)] : den IP c25 (@Q25 q) = fun e h => @K25 (e 0) (e 1) (e 2) h q := by
  refine Eq.trans (seq_eq (seq_eq (@p25_1 q) (seq_eq (@p25_2 q) (region_eq (app_eq (grp_eq2 10 false rfl (@p25_9 q) rfl) rfl)))) rfl) ?_
  kernel_rfl
theorem f25 (a0 a1 a2 : V) (h : H) (Q : V → H → Prop) : @wF IP 25 [a0, a1, a2] h ⟨Q⟩ ↔ @K25 a0 a1 a2 h ⟨Q⟩ := (Fnc_den (ip25) (by kernel_rfl) (by kernel_rfl) h Q).trans (iff_of_eq (congrFun (congrFun (@p25 ⟨Q⟩) _) h))
theorem ip27 : IP 27 = some ir27 := rfl
def Q27 [q : Hid (V → H → Prop)] : X → E → H → Prop := Qr rs27 q.un
def K27 (x0 : V) (h : H) [q : Hid (V → H → Prop)] : Prop := @Bnd V (vEqz true .p x0 (.p none)) ⟨fun v1 => @Sel v1 ⟨@Bnd V (vNilc x0) ⟨fun v2 => @Bnd V (vFa 1 v2) ⟨fun v3 => @Bnd (V × H) (vStore h 1 v3 V.nsl) ⟨fun r4 => @Hid.un (V → H → Prop) q (.tup []) r4.2⟩⟩⟩⟩ ⟨@Hid.un (V → H → Prop) q (.tup []) h⟩⟩
theorem p27 [q : Hid (V → H → Prop)] : den IP c27 (@Q27 q) = fun e h => @K27 (e 0) h q := by kernel_rfl
theorem f27 (a0 : V) (h : H) (Q : V → H → Prop) : @wF IP 27 [a0] h ⟨Q⟩ ↔ @K27 a0 h ⟨Q⟩ := (Fnc_den (ip27) (by kernel_rfl) (by kernel_rfl) h Q).trans (iff_of_eq (congrFun (congrFun (@p27 ⟨Q⟩) _) h))
theorem ip31 : IP 31 = some ir31 := rfl
def Q31 [q : Hid (V → H → Prop)] : X → E → H → Prop := Qr rs31 q.un
def K31 (x0 : V) (h : H) [q : Hid (V → H → Prop)] : Prop := @Bnd V (vEqz false .p x0 (.p none)) ⟨fun v1 => @Sel v1 ⟨@Hid.un (V → H → Prop) q V.nsl h⟩ ⟨@Bnd V (vNilc x0) ⟨fun v2 => @Bnd V (vFa 1 v2) ⟨fun v3 => @Bnd V (vLd1 h v3) ⟨fun v4 => @wF IP 59 [v4] h ⟨fun v5 h6 => @Hid.un (V → H → Prop) q v5 h6⟩⟩⟩⟩⟩⟩
theorem p31 [q : Hid (V → H → Prop)] : den IP c31 (@Q31 q) = fun e h => @K31 (e 0) h q := by kernel_rfl
theorem f31 (a0 : V) (h : H) (Q : V → H → Prop) : @wF IP 31 [a0] h ⟨Q⟩ ↔ @K31 a0 h ⟨Q⟩ := (Fnc_den (ip31) (by kernel_rfl) (by kernel_rfl) h Q).trans (iff_of_eq (congrFun (congrFun (@p31 ⟨Q⟩) _) h))
theorem ip50 : IP 50 = some ir50 := rfl
def Q50 [q : Hid (V → H → Prop)] : X → E → H → Prop := Qr rs50 q.un
def S50_10 [q : Hid (V → H → Prop)] : List (E × H) → E → H → Prop := (fun st e h => chkAll o50_9 ((e, h) :: st) 27 [(20, 22)] ((Qx (den IP .ret (@Q50 q)) (@Q50 q)) X.normal e h))
def K50_10 (k20_24 : V) (k20_25 : V) (k22_h : H) (k23_h : H) (x24 x30 : V) (h : H) [q : Hid (V → H → Prop)] : Prop := @Bnd V (vPick x24 x30 (.b false)) ⟨fun v1 => @Chk (stdyG k20_24 true (stdy false 1 k20_25 k22_h k23_h)) ⟨@Hid.un (V → H → Prop) q v1 h⟩⟩
def J50_10 [q : Hid (V → H → Prop)] : List (E × H) → E → H → Prop := fun st e h => @K50_10 ((List.getD st 4 eh0).1 24) ((List.getD st 4 eh0).1 25) (List.getD st 2 eh0).2 (List.getD st 1 eh0).2 (e 24) (e 30) h q
theorem p50_10 [q : Hid (V → H → Prop)] : denT2 IP o50_1 (@S50_10 q) = (@J50_10 q) := by
  refine Eq.trans (tapp_eq rfl rfl) ?_
  kernel_rfl
def S50_11 [q : Hid (V → H → Prop)] : List (E × H) → E → H → Prop := (fun st e h => chkAll o50_9 ((e, h) :: st) 27 [(20, 22)] ((Qx (den IP .ret (@Q50 q)) (@Q50 q)) X.normal e h))
def K50_11 (x1 x3 x19 x22 : V) (h : H) [q : Hid (V → H → Prop)] : Prop := @Bnd V (vPick x19 x22 (.b false)) ⟨fun v1 => @Grd v1 true ⟨@Bnd V (vFa 0 x1) ⟨fun v2 => @Bnd V (vLd1 h v2) ⟨fun v3 => @wF IP 19 [x3] h ⟨fun v4 h5 => @Bnd V (bin .sub (.i .i64 16384) v4) ⟨fun v6 => @Bnd V (bin .leq v3 v6) ⟨fun v7 => @K50_10 v1 v2 h h5 v1 v7 h5 q⟩⟩⟩⟩⟩⟩ ⟨@K50_10 v1 undefV h h v1 undefV h q⟩⟩
def J50_11 [q : Hid (V → H → Prop)] : List (E × H) → E → H → Prop := fun st e h => @K50_11 (e 1) (e 3) (e 19) (e 22) h q
theorem p50_11 [q : Hid (V → H → Prop)] : denT2 IP o50_3 (@S50_11 q) = (@J50_11 q) := by
  refine Eq.trans (tapp_eq (tgrp_eq2 24 true rfl (@p50_10 q) rfl) rfl) ?_
  kernel_rfl
def S50_12 [q : Hid (V → H → Prop)] : List (E × H) → E → H → Prop := (fun st e h => chkAll o50_9 ((e, h) :: st) 27 [(20, 22)] ((Qx (den IP .ret (@Q50 q)) (@Q50 q)) X.normal e h))
def K50_12 (x1 x3 x12 x17 : V) (h : H) [q : Hid (V → H → Prop)] : Prop := @Bnd V (vPick x12 x17 (.b false)) ⟨fun v1 => @Grd v1 true ⟨@Bnd V (vFa 0 x1) ⟨fun v2 => @Bnd V (vLd1 h v2) ⟨fun v3 => @Bnd V (bin .geq v3 (.i .i64 0)) ⟨fun v4 => @K50_11 x1 x3 v1 v4 h q⟩⟩⟩⟩ ⟨@K50_11 x1 x3 v1 undefV h q⟩⟩
def J50_12 [q : Hid (V → H → Prop)] : List (E × H) → E → H → Prop := fun st e h => @K50_12 (e 1) (e 3) (e 12) (e 17) h q
theorem p50_12 [q : Hid (V → H → Prop)] : denT2 IP o50_5 (@S50_12 q) = (@J50_12 q) := by
  refine Eq.trans (tapp_eq (tgrp_eq2 19 true rfl (@p50_11 q) rfl) rfl) ?_
  kernel_rfl
def S50_13 [q : Hid (V → H → Prop)] : List (E × H) → E → H → Prop := (fun st e h => chkAll o50_9 ((e, h) :: st) 27 [(20, 22)] ((Qx (den IP .ret (@Q50 q)) (@Q50 q)) X.normal e h))
def K50_13 (x1 x3 x8 x10 : V) (h : H) [q : Hid (V → H → Prop)] : Prop := @Bnd V (vPick x8 x10 (.b false)) ⟨fun v1 => @Grd v1 true ⟨@Bnd V (bin .sub x3 (.i .i64 1)) ⟨fun v2 => @Bnd V (bin .and x3 v2) ⟨fun v3 => @Bnd V (bin .eql v3 (.i .i64 0)) ⟨fun v4 => @K50_12 x1 x3 v1 v4 h q⟩⟩⟩⟩ ⟨@K50_12 x1 x3 v1 undefV h q⟩⟩
def J50_13 [q : Hid (V → H → Prop)] : List (E × H) → E → H → Prop := fun st e h => @K50_13 (e 1) (e 3) (e 8) (e 10) h q
theorem p50_13 [q : Hid (V → H → Prop)] : denT2 IP o50_7 (@S50_13 q) = (@J50_13 q) := by
  refine Eq.trans (tapp_eq (tgrp_eq2 12 true rfl (@p50_12 q) rfl) rfl) ?_
  kernel_rfl
def K50 (x0 : V) (h : H) [q : Hid (V → H → Prop)] : Prop := @Bnd (V × H) (vBox x0 h) ⟨fun r1 => @Bnd V (vFa 1 r1.1) ⟨fun v2 => @Bnd V (vLd1 r1.2 v2) ⟨fun v3 => @Bnd V (bin .geq v3 (.i .i64 2)) ⟨fun v4 => @Grd v4 true ⟨@Bnd V (bin .leq v3 (.i .i64 64)) ⟨fun v5 => @K50_13 r1.1 v3 v4 v5 r1.2 q⟩⟩ ⟨@K50_13 r1.1 v3 v4 undefV r1.2 q⟩⟩⟩⟩⟩
theorem p50 [q : Hid (V → H → Prop)] : den IP c50 (@Q50 q) = fun e h => @K50 (e 0) h q := by
  refine Eq.trans (seq_eq (seq_eq (seq_eq rfl (draw_eq (tapp_eq (tgrp_eq2 8 true rfl (@p50_13 q) rfl) rfl))) rfl) rfl) ?_
  kernel_rfl
theorem f50 (a0 : V) (h : H) (Q : V → H → Prop) : @wF IP 50 [a0] h ⟨Q⟩ ↔ @K50 a0 h ⟨Q⟩ := (Fnc_den (ip50) (by kernel_rfl) (by kernel_rfl) h Q).trans (iff_of_eq (congrFun (congrFun (@p50 ⟨Q⟩) _) h))
theorem ip51 : IP 51 = some ir51 := rfl
def Q51 [q : Hid (V → H → Prop)] : X → E → H → Prop := Qr rs51 q.un
def K51 (x0 x1 : V) (h : H) [q : Hid (V → H → Prop)] : Prop := @wF IP 79 [x0, x1] h ⟨fun v1 h2 => @Bnd V (un .not v1) ⟨fun v3 => @Sel v3 ⟨@Hid.un (V → H → Prop) q (.i .u64 0) h2⟩ ⟨@Bnd V (vNilc x0) ⟨fun v4 => @Bnd V (vFa 0 v4) ⟨fun v5 => @Bnd V (vLd1 h2 v5) ⟨fun v6 => @Bnd V (vIa 1 v6 x1) ⟨fun v7 => @Bnd V (vLd1 h2 v7) ⟨fun v8 => @Hid.un (V → H → Prop) q v8 h2⟩⟩⟩⟩⟩⟩⟩⟩
theorem p51 [q : Hid (V → H → Prop)] : den IP c51 (@Q51 q) = fun e h => @K51 (e 0) (e 1) h q := by kernel_rfl
theorem f51 (a0 a1 : V) (h : H) (Q : V → H → Prop) : @wF IP 51 [a0, a1] h ⟨Q⟩ ↔ @K51 a0 a1 h ⟨Q⟩ := (Fnc_den (ip51) (by kernel_rfl) (by kernel_rfl) h Q).trans (iff_of_eq (congrFun (congrFun (@p51 ⟨Q⟩) _) h))
theorem ip52 : IP 52 = some ir52 := rfl
def Q52 [q : Hid (V → H → Prop)] : X → E → H → Prop := Qr rs52 q.un
def K52 (x0 : V) (h : H) [q : Hid (V → H → Prop)] : Prop := @Bnd (V × H) (vBox x0 h) ⟨fun r1 => @Bnd V (vLdA r1.2 2 r1.1) ⟨fun v2 => @wF IP 50 [v2] r1.2 ⟨fun v3 h4 => @Bnd V (un .not v3) ⟨fun v5 => @Sel v5 ⟨@Hid.un (V → H → Prop) q (.i .i64 (-1)) h4⟩ ⟨@Bnd V (vFa 0 r1.1) ⟨fun v6 => @Bnd V (vLd1 h4 v6) ⟨fun v7 => @Hid.un (V → H → Prop) q v7 h4⟩⟩⟩⟩⟩⟩⟩
theorem p52 [q : Hid (V → H → Prop)] : den IP c52 (@Q52 q) = fun e h => @K52 (e 0) h q := by kernel_rfl
theorem f52 (a0 : V) (h : H) (Q : V → H → Prop) : @wF IP 52 [a0] h ⟨Q⟩ ↔ @K52 a0 h ⟨Q⟩ := (Fnc_den (ip52) (by kernel_rfl) (by kernel_rfl) h Q).trans (iff_of_eq (congrFun (congrFun (@p52 ⟨Q⟩) _) h))
theorem ip53 : IP 53 = some ir53 := rfl
def Q53 [q : Hid (V → H → Prop)] : X → E → H → Prop := Qr rs53 q.un
def Q53_1 [q : Hid (V → H → Prop)] : X → E → H → Prop := (@Q53 q)
def K53_1 (x2 x4 : V) (h : H) [q : Hid (V → H → Prop)] : Prop := @Bnd V (vLdA h 9 x2) ⟨fun v1 => @Bnd (V × H) (vStore h 9 x4 v1) ⟨fun r2 => @Bnd V (vLdA r2.2 9 x4) ⟨fun v3 => @Hid.un (V → H → Prop) q v3 r2.2⟩⟩⟩
def J53_1 [q : Hid (V → H → Prop)] : E → H → Prop := fun e h => @K53_1 (e 2) (e 4) h q
theorem p53_1 [q : Hid (V → H → Prop)] : den IP c53_1 (@Q53_1 q) = (@J53_1 q) := by kernel_rfl
def Q53_2 [q : Hid (V → H → Prop)] : X → E → H → Prop := (Qb 0 (Qx (@J53_1 q) (@Q53 q)))
def Q53_3 [q : Hid (V → H → Prop)] : X → E → H → Prop := (@Q53_2 q)
def K53_3 (x2 x4 x22 : V) (h : H) [q : Hid (V → H → Prop)] : Prop := @Sel x22 ⟨@Bnd V (vFa 8 x2) ⟨fun v1 => @Bnd (V × H) (vStore h 1 v1 (.b true)) ⟨fun r2 => @K53_1 x2 x4 r2.2 q⟩⟩⟩ ⟨@Bnd V (vFa 6 x2) ⟨fun v3 => @Bnd (V × H) (vStore h 1 v3 (.i .i64 0)) ⟨fun r4 => @K53_1 x2 x4 r4.2 q⟩⟩⟩
def J53_3 [q : Hid (V → H → Prop)] : E → H → Prop := fun e h => @K53_3 (e 2) (e 4) (e 22) h q
theorem p53_3 [q : Hid (V → H → Prop)] : den IP c53_3 (@Q53_3 q) = (@J53_3 q) := by kernel_rfl
def S53_7 [q : Hid (V → H → Prop)] : E → H → Prop := ((Qx (@J53_3 q) (@Q53_2 q)) X.normal)
def K53_7 (x2 x4 x27 x29 : V) (h : H) [q : Hid (V → H → Prop)] : Prop := @Bnd V (vPick x27 (.b true) x29) ⟨fun v1 => @K53_3 x2 x4 v1 h q⟩
def J53_7 [q : Hid (V → H → Prop)] : E → H → Prop := fun e h => @K53_7 (e 2) (e 4) (e 27) (e 29) h q
theorem p53_7 [q : Hid (V → H → Prop)] : denOps IP o53_4 (@S53_7 q) = (@J53_7 q) := by
  refine Eq.trans (app_eq rfl rfl) ?_
  kernel_rfl
def K53_2 (x1 x2 x4 x6 : V) (h : H) [q : Hid (V → H → Prop)] : Prop := @Sel x6 ⟨@Bnd V (vFa 6 x2) ⟨fun v1 => @Bnd (V × H) (vStore h 1 v1 (.i .i64 3)) ⟨fun r2 => @K53_1 x2 x4 r2.2 q⟩⟩⟩ ⟨@Bnd V (vFa 5 x2) ⟨fun v3 => @Bnd V (vLd1 h v3) ⟨fun v4 => @Bnd V (bin .eql x1 v4) ⟨fun v5 => @Sel v5 ⟨@Bnd V (vFa 6 x2) ⟨fun v6 => @Bnd (V × H) (vStore h 1 v6 (.i .i64 2)) ⟨fun r7 => @K53_1 x2 x4 r7.2 q⟩⟩⟩ ⟨@Bnd V (vFa 5 x2) ⟨fun v8 => @Bnd V (vLd1 h v8) ⟨fun v9 => @Bnd V (bin .lss x1 v9) ⟨fun v10 => @Grd v10 false ⟨@Bnd V (vFa 7 x2) ⟨fun v11 => @Bnd V (vLd1 h v11) ⟨fun v12 => @K53_7 x2 x4 v10 v12 h q⟩⟩⟩ ⟨@K53_7 x2 x4 v10 undefV h q⟩⟩⟩⟩⟩⟩⟩⟩⟩
def J53_2 [q : Hid (V → H → Prop)] : E → H → Prop := fun e h => @K53_2 (e 1) (e 2) (e 4) (e 6) h q
theorem p53_2 [q : Hid (V → H → Prop)] : den IP c53_2 (@Q53_2 q) = (@J53_2 q) := by
  refine Eq.trans (cond_eq rfl (seq_eq (cond_eq rfl (seq_eq (@p53_3 q) (region_eq (app_eq (grp_eq2 27 false rfl (@p53_7 q) rfl) rfl)))) rfl)) ?_
  kernel_rfl
def S53_11 [q : Hid (V → H → Prop)] : E → H → Prop := ((Qx (@J53_2 q) (Qb 0 (Qx (@J53_1 q) (@Q53 q)))) X.normal)
def K53_11 (x1 x2 x4 x11 x13 : V) (h : H) [q : Hid (V → H → Prop)] : Prop := @Bnd V (vPick x11 x13 (.b false)) ⟨fun v1 => @K53_2 x1 x2 x4 v1 h q⟩
def J53_11 [q : Hid (V → H → Prop)] : E → H → Prop := fun e h => @K53_11 (e 1) (e 2) (e 4) (e 11) (e 13) h q
theorem p53_11 [q : Hid (V → H → Prop)] : denOps IP o53_8 (@S53_11 q) = (@J53_11 q) := by
  refine Eq.trans (app_eq rfl rfl) ?_
  kernel_rfl
def K53 (x0 x1 : V) (h : H) [q : Hid (V → H → Prop)] : Prop := @Bnd (V × H) (vBox x0 h) ⟨fun r1 => @Bnd (V × H) (some (.p (some (H.nx r1.2, 0)), H.new r1.2 ⟨false, [(.i .i64 0), (.i .i64 0), (.i .u64 0), (.i .u64 0), (.i .u64 0), (.i .u64 0), (.i .i64 0), (.b false), (.b false)]⟩)) ⟨fun r2 => @Bnd V (vFa 5 r1.1) ⟨fun v3 => @Bnd V (vLd1 r2.2 v3) ⟨fun v4 => @Bnd V (bin .eql x1 v4) ⟨fun v5 => @Grd v5 true ⟨@Bnd V (vFa 7 r1.1) ⟨fun v6 => @Bnd V (vLd1 r2.2 v6) ⟨fun v7 => @K53_11 x1 r1.1 r2.1 v5 v7 r2.2 q⟩⟩⟩ ⟨@K53_11 x1 r1.1 r2.1 v5 undefV r2.2 q⟩⟩⟩⟩⟩⟩
theorem p53 [q : Hid (V → H → Prop)] : den IP c53 (@Q53 q) = fun e h => @K53 (e 0) (e 1) h q := by
  refine Eq.trans (seq_eq (seq_eq (@p53_1 q) (block_eq (seq_eq (@p53_2 q) (region_eq (app_eq (grp_eq2 11 true rfl (@p53_11 q) rfl) rfl))))) rfl) ?_
  kernel_rfl
theorem f53 (a0 a1 : V) (h : H) (Q : V → H → Prop) : @wF IP 53 [a0, a1] h ⟨Q⟩ ↔ @K53 a0 a1 h ⟨Q⟩ := (Fnc_den (ip53) (by kernel_rfl) (by kernel_rfl) h Q).trans (iff_of_eq (congrFun (congrFun (@p53 ⟨Q⟩) _) h))
theorem ip54 : IP 54 = some ir54 := rfl
def Q54 [q : Hid (V → H → Prop)] : X → E → H → Prop := Qr rs54 q.un
def K54 (x0 x1 : V) (h : H) [q : Hid (V → H → Prop)] : Prop := @Bnd (V × H) (vBox x0 h) ⟨fun r1 => @Bnd V (vLdA r1.2 2 r1.1) ⟨fun v2 => @wF IP 50 [v2] r1.2 ⟨fun v3 h4 => @Bnd V (un .not v3) ⟨fun v5 => @Sel v5 ⟨@Hid.un (V → H → Prop) q (.i .i64 (-1)) h4⟩ ⟨@Bnd V (vLdA h4 2 r1.1) ⟨fun v6 => @wF IP 58 [v6, x1] h4 ⟨fun v7 h8 => @Hid.un (V → H → Prop) q v7 h8⟩⟩⟩⟩⟩⟩⟩
theorem p54 [q : Hid (V → H → Prop)] : den IP c54 (@Q54 q) = fun e h => @K54 (e 0) (e 1) h q := by kernel_rfl
theorem f54 (a0 a1 : V) (h : H) (Q : V → H → Prop) : @wF IP 54 [a0, a1] h ⟨Q⟩ ↔ @K54 a0 a1 h ⟨Q⟩ := (Fnc_den (ip54) (by kernel_rfl) (by kernel_rfl) h Q).trans (iff_of_eq (congrFun (congrFun (@p54 ⟨Q⟩) _) h))
theorem ip55 : IP 55 = some ir55 := rfl
def Q55 [q : Hid (V → H → Prop)] : X → E → H → Prop := Qr rs55 q.un
def Q55_1 [q : Hid (V → H → Prop)] : X → E → H → Prop := (@Q55 q)
def K55_1 (x0 x1 x3 : V) (h : H) [q : Hid (V → H → Prop)] : Prop := @Bnd V (vNilc x0) ⟨fun v1 => @Bnd V (vFa 0 v1) ⟨fun v2 => @Bnd V (vLd1 h v2) ⟨fun v3 => @Bnd V (vIa 1 v3 x1) ⟨fun v4 => @Bnd (V × H) (vStore h 1 v4 x3) ⟨fun r5 => @Hid.un (V → H → Prop) q (.b true) r5.2⟩⟩⟩⟩⟩
def J55_1 [q : Hid (V → H → Prop)] : E → H → Prop := fun e h => @K55_1 (e 0) (e 1) (e 3) h q
theorem p55_1 [q : Hid (V → H → Prop)] : den IP c55_1 (@Q55_1 q) = (@J55_1 q) := by kernel_rfl
def Q55_2 [q : Hid (V → H → Prop)] : X → E → H → Prop := (Qx (@J55_1 q) (@Q55 q))
def K55_2 (x0 x1 x3 x23 : V) (h : H) [q : Hid (V → H → Prop)] : Prop := @Sel x23 ⟨@Hid.un (V → H → Prop) q (.b false) h⟩ ⟨@K55_1 x0 x1 x3 h q⟩
def J55_2 [q : Hid (V → H → Prop)] : E → H → Prop := fun e h => @K55_2 (e 0) (e 1) (e 3) (e 23) h q
theorem p55_2 [q : Hid (V → H → Prop)] : den IP c55_2 (@Q55_2 q) = (@J55_2 q) := by kernel_rfl
def S55_6 [q : Hid (V → H → Prop)] : E → H → Prop := ((Qx (@J55_2 q) (Qx (@J55_1 q) (@Q55 q))) X.normal)
def K55_6 (x0 x1 x3 x13 x22 : V) (h : H) [q : Hid (V → H → Prop)] : Prop := @Bnd V (vPick x13 (.b true) x22) ⟨fun v1 => @K55_2 x0 x1 x3 v1 h q⟩
def J55_6 [q : Hid (V → H → Prop)] : E → H → Prop := fun e h => @K55_6 (e 0) (e 1) (e 3) (e 13) (e 22) h q
theorem p55_6 [q : Hid (V → H → Prop)] : denOps IP o55_3 (@S55_6 q) = (@J55_6 q) := by
  refine Eq.trans (app_eq rfl rfl) ?_
  kernel_rfl
def K55 (x0 x1 x2 x3 : V) (h : H) [q : Hid (V → H → Prop)] : Prop := @wF IP 79 [x0, x1] h ⟨fun v1 h2 => @Bnd V (un .not v1) ⟨fun v3 => @Grd v3 false ⟨@Bnd V (vNilc x0) ⟨fun v4 => @Bnd V (vFa 0 v4) ⟨fun v5 => @Bnd V (vLd1 h2 v5) ⟨fun v6 => @Bnd V (vIa 1 v6 x1) ⟨fun v7 => @Bnd V (vLd1 h2 v7) ⟨fun v8 => @Bnd V (bin .neq v8 x2) ⟨fun v9 => @K55_6 x0 x1 x3 v3 v9 h2 q⟩⟩⟩⟩⟩⟩⟩ ⟨@K55_6 x0 x1 x3 v3 undefV h2 q⟩⟩⟩
theorem p55 [q : Hid (V → H → Prop)] : den IP c55 (@Q55 q) = fun e h => @K55 (e 0) (e 1) (e 2) (e 3) h q := by
  refine Eq.trans (seq_eq (seq_eq (@p55_1 q) (seq_eq (@p55_2 q) (region_eq (app_eq (grp_eq2 13 false rfl (@p55_6 q) rfl) rfl)))) rfl) ?_
  kernel_rfl
theorem f55 (a0 a1 a2 a3 : V) (h : H) (Q : V → H → Prop) : @wF IP 55 [a0, a1, a2, a3] h ⟨Q⟩ ↔ @K55 a0 a1 a2 a3 h ⟨Q⟩ := (Fnc_den (ip55) (by kernel_rfl) (by kernel_rfl) h Q).trans (iff_of_eq (congrFun (congrFun (@p55 ⟨Q⟩) _) h))
theorem ip56 : IP 56 = some ir56 := rfl
def Q56 [q : Hid (V → H → Prop)] : X → E → H → Prop := Qr rs56 q.un
def K56 (x0 x1 x2 : V) (h : H) [q : Hid (V → H → Prop)] : Prop := @wF IP 79 [x0, x1] h ⟨fun v1 h2 => @Sel v1 ⟨@Bnd V (vNilc x0) ⟨fun v3 => @Bnd V (vFa 0 v3) ⟨fun v4 => @Bnd V (vLd1 h2 v4) ⟨fun v5 => @Bnd V (vIa 1 v5 x1) ⟨fun v6 => @Bnd (V × H) (vStore h2 1 v6 x2) ⟨fun r7 => @Hid.un (V → H → Prop) q (.tup []) r7.2⟩⟩⟩⟩⟩⟩ ⟨@Hid.un (V → H → Prop) q (.tup []) h2⟩⟩
theorem p56 [q : Hid (V → H → Prop)] : den IP c56 (@Q56 q) = fun e h => @K56 (e 0) (e 1) (e 2) h q := by kernel_rfl
theorem f56 (a0 a1 a2 : V) (h : H) (Q : V → H → Prop) : @wF IP 56 [a0, a1, a2] h ⟨Q⟩ ↔ @K56 a0 a1 a2 h ⟨Q⟩ := (Fnc_den (ip56) (by kernel_rfl) (by kernel_rfl) h Q).trans (iff_of_eq (congrFun (congrFun (@p56 ⟨Q⟩) _) h))
theorem ip57 : IP 57 = some ir57 := rfl
def Q57 [q : Hid (V → H → Prop)] : X → E → H → Prop := Qr rs57 q.un
def K57 (x0 : V) (h : H) [q : Hid (V → H → Prop)] : Prop := @Bnd V (vEqz false .p x0 (.p none)) ⟨fun v1 => @Sel v1 ⟨@Hid.un (V → H → Prop) q (.i .i64 0) h⟩ ⟨@Bnd V (vNilc x0) ⟨fun v2 => @Bnd V (vFa 0 v2) ⟨fun v3 => @Bnd V (vLd1 h v3) ⟨fun v4 => @Bnd V (vLens v4) ⟨fun v5 => @Hid.un (V → H → Prop) q v5 h⟩⟩⟩⟩⟩⟩
theorem p57 [q : Hid (V → H → Prop)] : den IP c57 (@Q57 q) = fun e h => @K57 (e 0) h q := by kernel_rfl
theorem f57 (a0 : V) (h : H) (Q : V → H → Prop) : @wF IP 57 [a0] h ⟨Q⟩ ↔ @K57 a0 h ⟨Q⟩ := (Fnc_den (ip57) (by kernel_rfl) (by kernel_rfl) h Q).trans (iff_of_eq (congrFun (congrFun (@p57 ⟨Q⟩) _) h))
theorem ip58 : IP 58 = some ir58 := rfl
def Q58 [q : Hid (V → H → Prop)] : X → E → H → Prop := Qr rs58 q.un
def K58 (x0 x1 : V) (h : H) [q : Hid (V → H → Prop)] : Prop := @Bnd (V × H) (vBox x0 h) ⟨fun r1 => @Bnd V (vFa 0 r1.1) ⟨fun v2 => @Bnd V (vLd1 r1.2 v2) ⟨fun v3 => @Bnd V (bin .add v3 (.i .i64 1)) ⟨fun v4 => @Bnd V (vFa 1 r1.1) ⟨fun v5 => @Bnd V (vLd1 r1.2 v5) ⟨fun v6 => @Bnd V (vCvi .u64 v6) ⟨fun v7 => @Bnd V (bin .rem x1 v7) ⟨fun v8 => @Bnd V (vCvi .i64 v8) ⟨fun v9 => @Bnd V (bin .mul v9 (.i .i64 4)) ⟨fun v10 => @Bnd V (bin .add v4 v10) ⟨fun v11 => @Hid.un (V → H → Prop) q v11 r1.2⟩⟩⟩⟩⟩⟩⟩⟩⟩⟩⟩
theorem p58 [q : Hid (V → H → Prop)] : den IP c58 (@Q58 q) = fun e h => @K58 (e 0) (e 1) h q := by kernel_rfl
theorem f58 (a0 a1 : V) (h : H) (Q : V → H → Prop) : @wF IP 58 [a0, a1] h ⟨Q⟩ ↔ @K58 a0 a1 h ⟨Q⟩ := (Fnc_den (ip58) (by kernel_rfl) (by kernel_rfl) h Q).trans (iff_of_eq (congrFun (congrFun (@p58 ⟨Q⟩) _) h))
theorem ip59 : IP 59 = some ir59 := rfl
def Q59 [q : Hid (V → H → Prop)] : X → E → H → Prop := Qr rs59 q.un
def K59 (x0 : V) (h : H) [q : Hid (V → H → Prop)] : Prop := @Bnd V (vEqz false .s x0 V.nsl) ⟨fun v1 => @Sel v1 ⟨@Hid.un (V → H → Prop) q V.nsl h⟩ ⟨@Bnd (V × H) (vNewSl 0 [] [] h) ⟨fun r2 => @Bnd (V × H) (vApp 1 8 r2.1 x0 r2.2) ⟨fun r3 => @Hid.un (V → H → Prop) q r3.1 r3.2⟩⟩⟩⟩
theorem p59 [q : Hid (V → H → Prop)] : den IP c59 (@Q59 q) = fun e h => @K59 (e 0) h q := by kernel_rfl
theorem f59 (a0 : V) (h : H) (Q : V → H → Prop) : @wF IP 59 [a0] h ⟨Q⟩ ↔ @K59 a0 h ⟨Q⟩ := (Fnc_den (ip59) (by kernel_rfl) (by kernel_rfl) h Q).trans (iff_of_eq (congrFun (congrFun (@p59 ⟨Q⟩) _) h))
theorem ip79 : IP 79 = some ir79 := rfl
def Q79 [q : Hid (V → H → Prop)] : X → E → H → Prop := Qr rs79 q.un
def Q79_1 [q : Hid (V → H → Prop)] : X → E → H → Prop := (@Q79 q)
def Q79_2 [q : Hid (V → H → Prop)] : X → E → H → Prop := (@Q79_1 q)
def K79_2 (h : H) [q : Hid (V → H → Prop)] : Prop := @Hid.un (V → H → Prop) q (.b true) h
def J79_2 [q : Hid (V → H → Prop)] : E → H → Prop := fun e h => @K79_2 h q
theorem p79_2 [q : Hid (V → H → Prop)] : den IP c79_2 (@Q79_2 q) = (@J79_2 q) := by kernel_rfl
def K79_1 (x0 x1 : V) (h : H) [q : Hid (V → H → Prop)] : Prop := @Bnd V (vNilc x0) ⟨fun v1 => @Bnd V (vFa 1 v1) ⟨fun v2 => @Bnd V (vLd1 h v2) ⟨fun v3 => @wF IP 104 [v3, x1] h ⟨fun v4 h5 => @Bnd V (un .not v4) ⟨fun v6 => @Sel v6 ⟨@Bnd V (vNilc x0) ⟨fun v7 => @Bnd V (vFa 1 v7) ⟨fun v8 => @Bnd V (vLd1 h5 v8) ⟨fun v9 => @Bnd (V × H) (vNewSl 1 [(.i .i64 0)] [(0, 1, x1)] h5) ⟨fun r10 => @Bnd (V × H) (vApp 1 8 v9 r10.1 r10.2) ⟨fun r11 => @Bnd V (vNilc x0) ⟨fun v12 => @Bnd V (vFa 1 v12) ⟨fun v13 => @Bnd (V × H) (vStore r11.2 1 v13 r11.1) ⟨fun r14 => @K79_2 r14.2 q⟩⟩⟩⟩⟩⟩⟩⟩⟩ ⟨@K79_2 h5 q⟩⟩⟩⟩⟩⟩
def J79_1 [q : Hid (V → H → Prop)] : E → H → Prop := fun e h => @K79_1 (e 0) (e 1) h q
theorem p79_1 [q : Hid (V → H → Prop)] : den IP c79_1 (@Q79_1 q) = (@J79_1 q) := by
  refine Eq.trans (seq_eq (@p79_2 q) rfl) ?_
  kernel_rfl
def Q79_3 [q : Hid (V → H → Prop)] : X → E → H → Prop := (Qx (@J79_1 q) (@Q79 q))
def K79_3 (x0 x1 x17 : V) (h : H) [q : Hid (V → H → Prop)] : Prop := @Sel x17 ⟨@Bnd V (vNilc x0) ⟨fun v1 => @Bnd V (vFa 2 v1) ⟨fun v2 => @Bnd V (vLd1 h v2) ⟨fun v3 => @Bnd V (bin .add v3 (.i .i64 1)) ⟨fun v4 => @Bnd V (vNilc x0) ⟨fun v5 => @Bnd V (vFa 2 v5) ⟨fun v6 => @Bnd (V × H) (vStore h 1 v6 v4) ⟨fun r7 => @Hid.un (V → H → Prop) q (.b false) r7.2⟩⟩⟩⟩⟩⟩⟩⟩ ⟨@K79_1 x0 x1 h q⟩
def J79_3 [q : Hid (V → H → Prop)] : E → H → Prop := fun e h => @K79_3 (e 0) (e 1) (e 17) h q
theorem p79_3 [q : Hid (V → H → Prop)] : den IP c79_3 (@Q79_3 q) = (@J79_3 q) := by kernel_rfl
def S79_7 [q : Hid (V → H → Prop)] : E → H → Prop := ((Qx (@J79_3 q) (Qx (@J79_1 q) (@Q79 q))) X.normal)
def K79_7 (x0 x1 x9 x16 : V) (h : H) [q : Hid (V → H → Prop)] : Prop := @Bnd V (vPick x9 (.b true) x16) ⟨fun v1 => @K79_3 x0 x1 v1 h q⟩
def J79_7 [q : Hid (V → H → Prop)] : E → H → Prop := fun e h => @K79_7 (e 0) (e 1) (e 9) (e 16) h q
theorem p79_7 [q : Hid (V → H → Prop)] : denOps IP o79_4 (@S79_7 q) = (@J79_7 q) := by
  refine Eq.trans (app_eq rfl rfl) ?_
  kernel_rfl
def K79 (x0 x1 : V) (h : H) [q : Hid (V → H → Prop)] : Prop := @Bnd V (vEqz false .p x0 (.p none)) ⟨fun v1 => @Sel v1 ⟨@Hid.un (V → H → Prop) q (.b false) h⟩ ⟨@Bnd V (bin .lss x1 (.i .i64 0)) ⟨fun v2 => @Grd v2 false ⟨@Bnd V (vNilc x0) ⟨fun v3 => @Bnd V (vFa 0 v3) ⟨fun v4 => @Bnd V (vLd1 h v4) ⟨fun v5 => @Bnd V (vLens v5) ⟨fun v6 => @Bnd V (bin .geq x1 v6) ⟨fun v7 => @K79_7 x0 x1 v2 v7 h q⟩⟩⟩⟩⟩⟩ ⟨@K79_7 x0 x1 v2 undefV h q⟩⟩⟩⟩
theorem p79 [q : Hid (V → H → Prop)] : den IP c79 (@Q79 q) = fun e h => @K79 (e 0) (e 1) h q := by
  refine Eq.trans (seq_eq (seq_eq (seq_eq (@p79_1 q) (seq_eq (@p79_3 q) (region_eq (app_eq (grp_eq2 9 false rfl (@p79_7 q) rfl) rfl)))) rfl) rfl) ?_
  kernel_rfl
theorem f79 (a0 a1 : V) (h : H) (Q : V → H → Prop) : @wF IP 79 [a0, a1] h ⟨Q⟩ ↔ @K79 a0 a1 h ⟨Q⟩ := (Fnc_den (ip79) (by kernel_rfl) (by kernel_rfl) h Q).trans (iff_of_eq (congrFun (congrFun (@p79 ⟨Q⟩) _) h))
theorem ip104 : IP 104 = some ir104 := rfl
def Q104 [q : Hid (V → H → Prop)] : X → E → H → Prop := Qr rs104 q.un
def K104 (x0 x1 : V) (h : H) [q : Hid (V → H → Prop)] : Prop := @wF IP 109 [x0, x1] h ⟨fun v1 h2 => @Bnd V (bin .geq v1 (.i .i64 0)) ⟨fun v3 => @Hid.un (V → H → Prop) q v3 h2⟩⟩
theorem p104 [q : Hid (V → H → Prop)] : den IP c104 (@Q104 q) = fun e h => @K104 (e 0) (e 1) h q := by kernel_rfl
theorem f104 (a0 a1 : V) (h : H) (Q : V → H → Prop) : @wF IP 104 [a0, a1] h ⟨Q⟩ ↔ @K104 a0 a1 h ⟨Q⟩ := (Fnc_den (ip104) (by kernel_rfl) (by kernel_rfl) h Q).trans (iff_of_eq (congrFun (congrFun (@p104 ⟨Q⟩) _) h))
theorem ip109 : IP 109 = some ir109 := rfl
def Q109 [q : Hid (V → H → Prop)] : X → E → H → Prop := Qr rs109 q.un
def Q109_1 [q : Hid (V → H → Prop)] : X → E → H → Prop := (@Q109 q)
def K109_1 (h : H) [q : Hid (V → H → Prop)] : Prop := @Hid.un (V → H → Prop) q (.i .i64 (-1)) h
def J109_1 [q : Hid (V → H → Prop)] : E → H → Prop := fun e h => @K109_1 h q
theorem p109_1 [q : Hid (V → H → Prop)] : den IP c109_1 (@Q109_1 q) = (@J109_1 q) := by kernel_rfl
def R109_2 [q : Hid (V → H → Prop)] : X → E → H → Prop := (Qb 0 (Qx (@J109_1 q) (@Q109 q)))
def Q109_2 [q : Hid (V → H → Prop)] [g109_2 : Hid (V → V → V → V → H → Prop)] : X → E → H → Prop := Qx (fun e h => g109_2.un (e 0) (e 1) (e 7) (e 8) h) (@R109_2 q)
def L109_2 (x0 x1 x7 x8 : V) (h : H) [q : Hid (V → H → Prop)] [g109_2 : Hid (V → V → V → V → H → Prop)] : Prop := @Bnd V (bin .lss x8 x7) ⟨fun v1 => @Sel v1 ⟨@Bnd V (vIa 1 x0 x8) ⟨fun v2 => @Bnd V (vLd1 h v2) ⟨fun v3 => @Bnd V (bin .eql x1 v3) ⟨fun v4 => @Sel v4 ⟨@Hid.un (V → H → Prop) q x8 h⟩ ⟨@Bnd V (bin .add x8 (.i .i64 1)) ⟨fun v5 => @Hid.un (V → V → V → V → H → Prop) g109_2 x0 x1 x7 v5 h⟩⟩⟩⟩⟩⟩ ⟨@K109_1 h q⟩⟩
theorem p109_2 [q : Hid (V → H → Prop)] [g109_2 : Hid (V → V → V → V → H → Prop)] : den IP c109_2 (@Q109_2 q g109_2) = fun e h => @L109_2 (e 0) (e 1) (e 7) (e 8) h q g109_2 := by kernel_rfl
def W109_2 (x0 x1 x7 x8 : V) (h : H) [q : Hid (V → H → Prop)] : Prop := wFix (fun (g : V × V × V × V × Unit → H → Prop) (x : V × V × V × V × Unit) h => @L109_2 x.1 x.2.1 x.2.2.1 x.2.2.2.1 h q ⟨fun y0 y1 y7 y8 h => g (y0, y1, y7, y8, ()) h⟩) (x0, x1, x7, x8, ()) h
theorem n109_2 [q : Hid (V → H → Prop)] : ∀ g : V × V × V × V × Unit → H → Prop, den IP c109_2 (Qx (fun e h => g ((fun e : E => ((e 0, e 1, e 7, e 8, ()) : V × V × V × V × Unit)) e) h) (@R109_2 q)) = fun e h => (fun (g : V × V × V × V × Unit → H → Prop) (x : V × V × V × V × Unit) h => @L109_2 x.1 x.2.1 x.2.2.1 x.2.2.2.1 h q ⟨fun y0 y1 y7 y8 h => g (y0, y1, y7, y8, ()) h⟩) g ((fun e : E => ((e 0, e 1, e 7, e 8, ()) : V × V × V × V × Unit)) e) h := fun g => @p109_2 q ⟨fun y0 y1 y7 y8 h => g (y0, y1, y7, y8, ()) h⟩
theorem w109_2 [q : Hid (V → H → Prop)] : den IP (.loop c109_2) (@R109_2 q) = fun e h => @W109_2 (e 0) (e 1) (e 7) (e 8) h q := loop_eq (fun e : E => ((e 0, e 1, e 7, e 8, ()) : V × V × V × V × Unit)) (fun (g : V × V × V × V × Unit → H → Prop) (x : V × V × V × V × Unit) h => @L109_2 x.1 x.2.1 x.2.2.1 x.2.2.2.1 h q ⟨fun y0 y1 y7 y8 h => g (y0, y1, y7, y8, ()) h⟩) (@n109_2 q)
theorem m109_2 [q : Hid (V → H → Prop)] : Mono (fun (g : V × V × V × V × Unit → H → Prop) (x : V × V × V × V × Unit) h => @L109_2 x.1 x.2.1 x.2.2.1 x.2.2.2.1 h q ⟨fun y0 y1 y7 y8 h => g (y0, y1, y7, y8, ()) h⟩) := mono_of (p := (fun e : E => ((e 0, e 1, e 7, e 8, ()) : V × V × V × V × Unit))) (fun x : V × V × V × V × Unit => upd (upd (upd (upd (fun _ => undefV) 8 (x.2.2.2.1)) 7 (x.2.2.1)) 1 (x.2.1)) 0 (x.1)) (fun _ => rfl) (@n109_2 q)
theorem W109_2_inv {q : Hid (V → H → Prop)} (I : Nat → V → V → V → V → H → Prop) (step : ∀ n x0 x1 x7 x8 h, I n x0 x1 x7 x8 h → @L109_2 x0 x1 x7 x8 h q ⟨fun y0 y1 y7 y8 h => ∃ m, m < n ∧ I m y0 y1 y7 y8 h⟩) (n : Nat) (x0 x1 x7 x8 : V) (h : H) (hi : I n x0 x1 x7 x8 h) : @W109_2 x0 x1 x7 x8 h q :=
  wFix_inv (@m109_2 q) (fun n x h => I n x.1 x.2.1 x.2.2.1 x.2.2.2.1 h) (fun n x h hi => step n x.1 x.2.1 x.2.2.1 x.2.2.2.1 h hi) n (x0, x1, x7, x8, ()) h hi
theorem W109_2_eq (x0 x1 x7 x8 : V) (h : H) {q : Hid (V → H → Prop)} : @W109_2 x0 x1 x7 x8 h q ↔ @L109_2 x0 x1 x7 x8 h q ⟨fun y0 y1 y7 y8 h => @W109_2 y0 y1 y7 y8 h q⟩ := wFix_unroll (@m109_2 q) (x0, x1, x7, x8, ()) h
def K109 (x0 x1 : V) (h : H) [q : Hid (V → H → Prop)] : Prop := @Bnd V (vLens x0) ⟨fun v1 => @W109_2 x0 x1 v1 (.i .i64 0) h q⟩
theorem p109 [q : Hid (V → H → Prop)] : den IP c109 (@Q109 q) = fun e h => @K109 (e 0) (e 1) h q := by
  refine Eq.trans (seq_eq (seq_eq (@p109_1 q) (seq_eq (block_eq (@w109_2 q)) rfl)) rfl) ?_
  kernel_rfl
theorem f109 (a0 a1 : V) (h : H) (Q : V → H → Prop) : @wF IP 109 [a0, a1] h ⟨Q⟩ ↔ @K109 a0 a1 h ⟨Q⟩ := (Fnc_den (ip109) (by kernel_rfl) (by kernel_rfl) h Q).trans (iff_of_eq (congrFun (congrFun (@p109 ⟨Q⟩) _) h))
end Go.Proofs.Ytbbencnhecokiaa.IrSendAlone
