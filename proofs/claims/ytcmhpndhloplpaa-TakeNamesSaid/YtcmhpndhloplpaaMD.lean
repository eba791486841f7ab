/- The intermediate forms of functions of the program (printed by a program of mine), each checked against the code. -/
import Derived.Test.YtcmhpndhloplpaaMC
import Derived.Test.YtcmhpndhloplpaaProg
import Derived.KernelRfl
namespace Go.Proofs.Ytcmhpndhloplpaa
open Go.Pal
def ir3 : IC :=
  .seq (.reg 0 2 [.mk (.some 1) (.box 24 (.t 0)) .none 0 .none .false [] .false, .mk (.some 2) (.mv (.k (.bool .false))) .none 1 .none .false [] .false]) (.seq (.seq (.reg 2 9 [.mk
  (.some 8) (.faddr 1 (.t 1)) .none 2 .none .false [] .false, .mk (.some 9) (.load 1 .false (.t 8)) .none 3 .none .false [] .false, .mk (.some 10) (.len (.t 9)) .none 4 .none .false
  [] .false, .mk (.some 11) (.bin .gtr (.t 10) (.k (.int .i64 60))) .none 5 .none .false [] .false, .mk (.some 12) (.mv (.t 11)) .none 6 .none .false [] .false, .mk (.some 13)
  (.load 4 .true (.t 1)) (.some (12, .false)) 7 .none .false [] .false, .mk (.some 14) (.call 10 [.t 13]) (.some (12, .false)) 8 .none .false [] .false, .mk (.some 15) (.bin .neq
  (.t 14) (.k (.int .i64 0))) (.some (12, .false)) 9 .none .false [] .false, .mk (.some 16) (.pick (.t 12) (.k (.bool .true)) (.t 15)) .none 10 .none .false [] .false]) (.cond (.t
  16) (.seq (.reg 11 2 [.mk (.some 17) (.call 11 []) .none 11 .none .false [] .false, .mk (.some 2) (.mv (.t 17)) .none 12 .none .false [] .false]) .ret) .skip)) (.seq (.reg 13 8
  [.mk (.some 19) (.load 4 .true (.t 1)) .none 13 .none .false [] .false, .mk (.some 20) (.call 13 [.t 19]) .none 14 .none .false [] .false, .mk (.some 21) (.call 12 [.t 20]) .none
  15 .none .false [] .false, .mk (.some 18) (.mv (.t 21)) .none 16 .none .false [] .false, .mk (.some 22) (.ext (.t 18) 0) .none 17 .none .false [] .false, .mk (.some 23) (.ext (.t
  18) 1) .none 18 .none .false [] .false, .mk (.some 3) (.mv (.t 22)) .none 19 .none .false [] .false, .mk (.some 4) (.mv (.t 23)) .none 20 .none .false [] .false]) (.seq (.seq
  (.reg 21 2 [.mk (.some 24) (.mv (.t 4)) .none 21 .none .false [] .false, .mk (.some 25) (.bin .neq (.t 24) (.k (.int .i64 0))) .none 22 .none .false [] .false]) (.cond (.t 25)
  (.seq (.reg 23 1 [.mk (.some 2) (.mv (.k (.bool .false))) .none 23 .none .false [] .false]) .ret) .skip)) (.seq (.seq (.reg 24 1 [.mk (.some 5) (.mv (.k (.int .i64 0))) .none 24
  .none .false [] .false]) (.block 0 (.loop (.seq (.seq (.reg 25 4 [.mk (.some 26) (.mv (.t 5)) .none 25 .none .false [] .false, .mk (.some 27) (.mv (.t 3)) .none 26 .none .false []
  .false, .mk (.some 28) (.len (.t 27)) .none 27 .none .false [] .false, .mk (.some 29) (.bin .lss (.t 26) (.t 28)) .none 28 .none .false [] .false]) (.cond (.t 29) .skip (.exit
  0))) (.seq (.block 1 (.seq (.draw 29 12 [] [] [.mk (.some 32) (.mv (.t 3)) .none 29 (.some []) .true [] .false, .mk (.some 33) (.mv (.t 5)) .none 30 (.some []) .true [] .false,
  .mk (.some 34) (.iaddr 2 (.t 32) (.t 33)) .none 31 (.some []) .true [] .false, .mk (.some 35) (.faddr 1 (.t 34)) .none 32 (.some []) .true [] .false, .mk (.some 36) (.load 1
  .false (.t 35)) .none 33 (.some []) .true [] .false, .mk (.some 37) (.mv (.t 3)) .none 34 (.some []) .true [] .false, .mk (.some 38) (.mv (.t 5)) .none 35 (.some []) .true []
  .false, .mk (.some 39) (.iaddr 2 (.t 37) (.t 38)) .none 36 (.some []) .true [] .false, .mk (.some 40) (.faddr 0 (.t 39)) .none 37 (.some []) .true [] .false, .mk (.some 41) (.load
  1 .false (.t 40)) .none 38 (.some []) .true [] .false, .mk (.some 42) (.bin .sub (.t 36) (.t 41)) .none 39 (.some []) .true [] .false, .mk (.some 6) (.mv (.t 42)) .none 40 (.some
  []) .true [] .false]) (.seq (.draw 41 36 [1] [] [.mk (.some 43) (.mv (.t 3)) .none 41 (.some []) .true [] .false, .mk (.some 44) (.mv (.t 5)) .none 42 (.some []) .true [] .false,
  .mk (.some 45) (.iaddr 2 (.t 43) (.t 44)) .none 43 (.some []) .true [] .false, .mk (.some 46) (.faddr 0 (.t 45)) .none 44 (.some []) .true [] .false, .mk (.some 47) (.load 1
  .false (.t 46)) .none 45 (.some []) .true [] .false, .mk (.some 48) (.bin .eql (.t 47) (.k (.int .i64 0))) .none 46 (.some []) .true [] .false, .mk (.some 49) (.mv (.t 48)) .none
  47 (.some []) .true [] .false, .mk (.some 50) (.load 4 .true (.t 1)) (.some (49, .false)) 48 (.some []) .true [] .false, .mk (.some 51) (.mv (.t 3)) (.some (49, .false)) 49 (.some
  []) .true [] .false, .mk (.some 52) (.mv (.t 5)) (.some (49, .false)) 50 (.some []) .true [] .false, .mk (.some 53) (.iaddr 2 (.t 51) (.t 52)) (.some (49, .false)) 51 (.some [])
  .true [] .false, .mk (.some 54) (.faddr 0 (.t 53)) (.some (49, .false)) 52 (.some []) .true [] .false, .mk (.some 55) (.load 1 .false (.t 54)) (.some (49, .false)) 53 (.some [])
  .true [] .false, .mk (.some 56) (.bin .sub (.t 55) (.k (.int .i64 1))) (.some (49, .false)) 54 (.some []) .true [] .false, .mk (.some 57) (.call 14 [.t 50, .t 56]) (.some (49,
  .false)) 55 (.some []) .true [] .false, .mk (.some 58) (.pick (.t 49) (.k (.bool .true)) (.t 57)) .none 56 (.some [55]) .true [] .false, .mk (.some 59) (.mv (.t 58)) .none 57
  (.some [55]) .true [] .false, .mk (.some 60) (.mv (.t 3)) (.some (59, .true)) 58 (.some [55]) .true [] .false, .mk (.some 61) (.mv (.t 5)) (.some (59, .true)) 59 (.some [55])
  .true [] .false, .mk (.some 62) (.iaddr 2 (.t 60) (.t 61)) (.some (59, .true)) 60 (.some [55]) .true [] .false, .mk (.some 63) (.faddr 1 (.t 62)) (.some (59, .true)) 61 (.some
  [55]) .true [] .false, .mk (.some 64) (.load 1 .false (.t 63)) (.some (59, .true)) 62 (.some [55]) .false [] .false, .mk (.some 65) (.faddr 0 (.t 1)) (.some (59, .true)) 63 (.some
  [55]) .true [] .false, .mk (.some 66) (.load 1 .false (.t 65)) (.some (59, .true)) 64 (.some [55]) .false [] .false, .mk (.some 67) (.bin .eql (.t 64) (.t 66)) (.some (59, .true))
  65 (.some [55]) .true [] .false, .mk (.some 68) (.mv (.t 67)) (.some (59, .true)) 66 (.some [55]) .true [] .false, .mk (.some 69) (.load 4 .true (.t 1)) (.some (68, .false)) 67
  (.some [55]) .false [] .false, .mk (.some 70) (.mv (.t 3)) (.some (68, .false)) 68 (.some [55]) .true [] .false, .mk (.some 71) (.mv (.t 5)) (.some (68, .false)) 69 (.some [55])
  .true [] .false, .mk (.some 72) (.iaddr 2 (.t 70) (.t 71)) (.some (68, .false)) 70 (.some [55]) .true [] .false, .mk (.some 73) (.faddr 1 (.t 72)) (.some (68, .false)) 71 (.some
  [55]) .true [] .false, .mk (.some 74) (.load 1 .false (.t 73)) (.some (68, .false)) 72 (.some [55]) .false [] .false, .mk (.some 75) (.call 14 [.t 69, .t 74]) (.some (68, .false))
  73 (.some [55]) .false [] .false, .mk (.some 76) (.pick (.t 68) (.k (.bool .true)) (.t 75)) (.some (59, .true)) 74 (.some [73, 55]) .true [] .false, .mk (.some 77) (.pick (.t 59)
  (.t 76) (.k (.bool .false))) .none 75 (.some [73, 55]) .true [] .false, .mk (.some 7) (.mv (.t 77)) .none 76 (.some [55, 73]) .true [] .false]) (.seq (.reg 77 21 [.mk (.some 78)
  (.mv (.t 6)) .none 77 .none .false [] .false, .mk (.some 79) (.bin .lss (.t 78) (.k (.int .i64 1))) .none 78 .none .false [] .false, .mk (.some 80) (.mv (.t 79)) .none 79 .none
  .false [] .false, .mk (.some 81) (.mv (.t 6)) (.some (80, .false)) 80 .none .false [] .false, .mk (.some 82) (.faddr 2 (.t 1)) (.some (80, .false)) 81 .none .false [] .false, .mk
  (.some 83) (.load 1 .false (.t 82)) (.some (80, .false)) 82 .none .false [] .false, .mk (.some 84) (.faddr 3 (.t 1)) (.some (80, .false)) 83 .none .false [] .false, .mk (.some 85)
  (.load 1 .false (.t 84)) (.some (80, .false)) 84 .none .false [] .false, .mk (.some 86) (.bin .add (.t 83) (.t 85)) (.some (80, .false)) 85 .none .false [] .false, .mk (.some 87)
  (.bin .geq (.t 81) (.t 86)) (.some (80, .false)) 86 .none .false [] .false, .mk (.some 88) (.pick (.t 80) (.k (.bool .true)) (.t 87)) .none 87 .none .false [] .false, .mk (.some
  89) (.mv (.t 88)) .none 88 .none .false [] .false, .mk (.some 90) (.mv (.t 6)) (.some (89, .false)) 89 .none .false [] .false, .mk (.some 91) (.faddr 3 (.t 1)) (.some (89,
  .false)) 90 .none .false [] .false, .mk (.some 92) (.load 1 .false (.t 91)) (.some (89, .false)) 91 .none .false [] .false, .mk (.some 93) (.bin .lss (.t 90) (.t 92)) (.some (89,
  .false)) 92 .none .false [] .false, .mk (.some 94) (.mv (.t 93)) (.some (89, .false)) 93 .none .false [] .false, .mk (.some 95) (.mv (.t 7)) (.some (94, .true)) 94 .none .false []
  .false, .mk (.some 96) (.un .not (.t 95)) (.some (94, .true)) 95 .none .false [] .false, .mk (.some 97) (.pick (.t 94) (.t 96) (.k (.bool .false))) (.some (89, .false)) 96 .none
  .false [] .false, .mk (.some 98) (.pick (.t 89) (.k (.bool .true)) (.t 97)) .none 97 .none .false [] .false]) (.cond (.t 98) (.seq (.reg 98 1 [.mk (.some 2) (.mv (.k (.bool
  .false))) .none 98 .none .false [] .false]) .ret) .skip))))) (.reg 99 3 [.mk (.some 30) (.mv (.t 5)) .none 99 .none .false [] .false, .mk (.some 31) (.bin .add (.t 30) (.k (.int
  .i64 1))) .none 100 .none .false [] .false, .mk (.some 5) (.mv (.t 31)) .none 101 .none .false [] .false])))))) (.seq (.reg 102 2 [.mk (.some 99) (.call 11 []) .none 102 .none
  .false [] .false, .mk (.some 2) (.mv (.t 99)) .none 103 .none .false [] .false]) .ret)))))
def rs3 : List IRes := [.tmp 2]
set_option maxRecDepth 100000 in
theorem comp3 : Comp Try.prog 3 ir3 rs3 100 := ⟨⟨_, _, 104, Try.func3, rfl, by kernel_rfl, by kernel_rfl, rfl⟩⟩
theorem body3 : HasBody Try.prog 3 := hasBody_of (by kernel_rfl)

def ir4 : IC :=
  .seq (.reg 0 2 [.mk (.some 2) (.box 24 (.t 0)) .none 0 .none .false [] .false, .mk (.some 4) (.mv (.k (.bool .false))) .none 1 .none .false [] .false]) (.seq (.seq (.reg 2 9 [.mk
  (.some 15) (.faddr 1 (.t 2)) .none 2 .none .false [] .false, .mk (.some 16) (.load 1 .false (.t 15)) .none 3 .none .false [] .false, .mk (.some 17) (.len (.t 16)) .none 4 .none
  .false [] .false, .mk (.some 18) (.bin .gtr (.t 17) (.k (.int .i64 60))) .none 5 .none .false [] .false, .mk (.some 19) (.mv (.t 18)) .none 6 .none .false [] .false, .mk (.some
  20) (.load 4 .true (.t 2)) (.some (19, .false)) 7 .none .false [] .false, .mk (.some 21) (.call 10 [.t 20]) (.some (19, .false)) 8 .none .false [] .false, .mk (.some 22) (.bin
  .neq (.t 21) (.k (.int .i64 0))) (.some (19, .false)) 9 .none .false [] .false, .mk (.some 23) (.pick (.t 19) (.k (.bool .true)) (.t 22)) .none 10 .none .false [] .false]) (.cond
  (.t 23) (.seq (.reg 11 2 [.mk (.some 24) (.call 11 []) .none 11 .none .false [] .false, .mk (.some 4) (.mv (.t 24)) .none 12 .none .false [] .false]) .ret) .skip)) (.seq (.reg 13
  6 [.mk (.some 25) (.mv (.t 1)) .none 13 .none .false [] .false, .mk (.some 26) (.conv .i64 (.t 25)) .none 14 .none .false [] .false, .mk (.some 27) (.faddr 0 (.t 2)) .none 15
  .none .false [] .false, .mk (.some 28) (.load 1 .false (.t 27)) .none 16 .none .false [] .false, .mk (.some 29) (.bin .rem (.t 26) (.t 28)) .none 17 .none .false [] .false, .mk
  (.some 5) (.mv (.t 29)) .none 18 .none .false [] .false]) (.seq (.reg 19 8 [.mk (.some 31) (.load 4 .true (.t 2)) .none 19 .none .false [] .false, .mk (.some 32) (.call 13 [.t
  31]) .none 20 .none .false [] .false, .mk (.some 33) (.call 12 [.t 32]) .none 21 .none .false [] .false, .mk (.some 30) (.mv (.t 33)) .none 22 .none .false [] .false, .mk (.some
  34) (.ext (.t 30) 0) .none 23 .none .false [] .false, .mk (.some 35) (.ext (.t 30) 1) .none 24 .none .false [] .false, .mk (.some 6) (.mv (.t 34)) .none 25 .none .false [] .false,
  .mk (.some 7) (.mv (.t 35)) .none 26 .none .false [] .false]) (.seq (.reg 27 9 [.mk (.some 37) (.load 4 .true (.t 2)) .none 27 .none .false [] .false, .mk (.some 38) (.call 13 [.t
  37]) .none 28 .none .false [] .false, .mk (.some 39) (.mv (.t 5)) .none 29 .none .false [] .false, .mk (.some 40) (.call 15 [.t 38, .t 39]) .none 30 .none .false [] .false, .mk
  (.some 36) (.mv (.t 40)) .none 31 .none .false [] .false, .mk (.some 41) (.ext (.t 36) 0) .none 32 .none .false [] .false, .mk (.some 42) (.ext (.t 36) 1) .none 33 .none .false []
  .false, .mk (.some 8) (.mv (.t 41)) .none 34 .none .false [] .false, .mk (.some 9) (.mv (.t 42)) .none 35 .none .false [] .false]) (.seq (.seq (.reg 36 7 [.mk (.some 43) (.mv (.t
  7)) .none 36 .none .false [] .false, .mk (.some 44) (.bin .neq (.t 43) (.k (.int .i64 0))) .none 37 .none .false [] .false, .mk (.some 45) (.mv (.t 44)) .none 38 .none .false []
  .false, .mk (.some 46) (.mv (.t 6)) (.some (45, .false)) 39 .none .false [] .false, .mk (.some 47) (.len (.t 46)) (.some (45, .false)) 40 .none .false [] .false, .mk (.some 48)
  (.bin .gtr (.t 47) (.k (.int .i64 40))) (.some (45, .false)) 41 .none .false [] .false, .mk (.some 49) (.pick (.t 45) (.k (.bool .true)) (.t 48)) .none 42 .none .false [] .false])
  (.cond (.t 49) (.seq (.reg 43 1 [.mk (.some 4) (.mv (.k (.bool .false))) .none 43 .none .false [] .false]) .ret) .skip)) (.seq (.reg 44 3 [.mk (.some 10) (.mv (.k (.int .i64 0)))
  .none 44 .none .false [] .false, .mk (.some 11) (.mv (.k (.int .i64 0))) .none 45 .none .false [] .false, .mk (.some 12) (.mv (.k (.int .i64 0))) .none 46 .none .false [] .false])
  (.seq (.seq (.reg 47 1 [.mk (.some 13) (.mv (.k (.int .i64 0))) .none 47 .none .false [] .false]) (.block 0 (.loop (.seq (.seq (.reg 48 4 [.mk (.some 50) (.mv (.t 13)) .none 48
  .none .false [] .false, .mk (.some 51) (.mv (.t 6)) .none 49 .none .false [] .false, .mk (.some 52) (.len (.t 51)) .none 50 .none .false [] .false, .mk (.some 53) (.bin .lss (.t
  50) (.t 52)) .none 51 .none .false [] .false]) (.cond (.t 53) .skip (.exit 0))) (.seq (.block 1 (.seq (.seq (.reg 52 16 [.mk (.some 56) (.mv (.t 6)) .none 52 .none .false []
  .false, .mk (.some 57) (.mv (.t 13)) .none 53 .none .false [] .false, .mk (.some 58) (.iaddr 2 (.t 56) (.t 57)) .none 54 .none .false [] .false, .mk (.some 59) (.faddr 0 (.t 58))
  .none 55 .none .false [] .false, .mk (.some 60) (.load 1 .false (.t 59)) .none 56 .none .false [] .false, .mk (.some 61) (.mv (.t 5)) .none 57 .none .false [] .false, .mk (.some
  62) (.bin .leq (.t 60) (.t 61)) .none 58 .none .false [] .false, .mk (.some 63) (.mv (.t 62)) .none 59 .none .false [] .false, .mk (.some 64) (.mv (.t 5)) (.some (63, .true)) 60
  .none .false [] .false, .mk (.some 65) (.mv (.t 6)) (.some (63, .true)) 61 .none .false [] .false, .mk (.some 66) (.mv (.t 13)) (.some (63, .true)) 62 .none .false [] .false, .mk
  (.some 67) (.iaddr 2 (.t 65) (.t 66)) (.some (63, .true)) 63 .none .false [] .false, .mk (.some 68) (.faddr 1 (.t 67)) (.some (63, .true)) 64 .none .false [] .false, .mk (.some
  69) (.load 1 .false (.t 68)) (.some (63, .true)) 65 .none .false [] .false, .mk (.some 70) (.bin .lss (.t 64) (.t 69)) (.some (63, .true)) 66 .none .false [] .false, .mk (.some
  71) (.pick (.t 63) (.t 70) (.k (.bool .false))) .none 67 .none .false [] .false]) (.cond (.t 71) (.reg 68 5 [.mk (.some 72) (.mv (.t 10)) .none 68 .none .false [] .false, .mk
  (.some 73) (.bin .add (.t 72) (.k (.int .i64 1))) .none 69 .none .false [] .false, .mk (.some 74) (.mv (.t 13)) .none 70 .none .false [] .false, .mk (.some 10) (.mv (.t 73)) .none
  71 .none .false [] .false, .mk (.some 11) (.mv (.t 74)) .none 72 .none .false [] .false]) .skip)) (.seq (.seq (.draw 73 47 [] [] [.mk (.some 75) (.mv (.t 6)) .none 73 (.some [])
  .true [] .false, .mk (.some 76) (.mv (.t 13)) .none 74 (.some []) .true [] .false, .mk (.some 77) (.iaddr 2 (.t 75) (.t 76)) .none 75 (.some []) .true [] .false, .mk (.some 78)
  (.faddr 0 (.t 77)) .none 76 (.some []) .true [] .false, .mk (.some 79) (.load 1 .false (.t 78)) .none 77 (.some []) .true [] .false, .mk (.some 80) (.bin .lss (.t 79) (.k (.int
  .i64 0))) .none 78 (.some []) .true [] .false, .mk (.some 81) (.mv (.t 80)) .none 79 (.some []) .true [] .false, .mk (.some 82) (.mv (.t 6)) (.some (81, .false)) 80 (.some [])
  .true [] .false, .mk (.some 83) (.mv (.t 13)) (.some (81, .false)) 81 (.some []) .true [] .false, .mk (.some 84) (.iaddr 2 (.t 82) (.t 83)) (.some (81, .false)) 82 (.some [])
  .true [] .false, .mk (.some 85) (.faddr 1 (.t 84)) (.some (81, .false)) 83 (.some []) .true [] .false, .mk (.some 86) (.load 1 .false (.t 85)) (.some (81, .false)) 84 (.some [])
  .true [] .false, .mk (.some 87) (.mv (.t 6)) (.some (81, .false)) 85 (.some []) .true [] .false, .mk (.some 88) (.mv (.t 13)) (.some (81, .false)) 86 (.some []) .true [] .false,
  .mk (.some 89) (.iaddr 2 (.t 87) (.t 88)) (.some (81, .false)) 87 (.some []) .true [] .false, .mk (.some 90) (.faddr 0 (.t 89)) (.some (81, .false)) 88 (.some []) .true [] .false,
  .mk (.some 91) (.load 1 .false (.t 90)) (.some (81, .false)) 89 (.some []) .true [] .false, .mk (.some 92) (.bin .leq (.t 86) (.t 91)) (.some (81, .false)) 90 (.some []) .true []
  .false, .mk (.some 93) (.pick (.t 81) (.k (.bool .true)) (.t 92)) .none 91 (.some []) .true [] .false, .mk (.some 94) (.mv (.t 93)) .none 92 (.some []) .true [] .false, .mk (.some
  95) (.mv (.t 6)) (.some (94, .false)) 93 (.some []) .true [] .false, .mk (.some 96) (.mv (.t 13)) (.some (94, .false)) 94 (.some []) .true [] .false, .mk (.some 97) (.iaddr 2 (.t
  95) (.t 96)) (.some (94, .false)) 95 (.some []) .true [] .false, .mk (.some 98) (.faddr 1 (.t 97)) (.some (94, .false)) 96 (.some []) .true [] .false, .mk (.some 99) (.load 1
  .false (.t 98)) (.some (94, .false)) 97 (.some []) .true [] .false, .mk (.some 100) (.faddr 0 (.t 2)) (.some (94, .false)) 98 (.some []) .true [] .false, .mk (.some 101) (.load 1
  .false (.t 100)) (.some (94, .false)) 99 (.some []) .true [] .false, .mk (.some 102) (.bin .gtr (.t 99) (.t 101)) (.some (94, .false)) 100 (.some []) .true [] .false, .mk (.some
  103) (.pick (.t 94) (.k (.bool .true)) (.t 102)) .none 101 (.some []) .true [] .false, .mk (.some 104) (.mv (.t 103)) .none 102 (.some []) .true [] .false, .mk (.some 105) (.mv
  (.t 13)) (.some (104, .false)) 103 (.some []) .true [] .false, .mk (.some 106) (.bin .gtr (.t 105) (.k (.int .i64 0))) (.some (104, .false)) 104 (.some []) .true [] .false, .mk
  (.some 107) (.mv (.t 106)) (.some (104, .false)) 105 (.some []) .true [] .false, .mk (.some 108) (.mv (.t 6)) (.some (107, .true)) 106 (.some []) .true [] .false, .mk (.some 109)
  (.mv (.t 13)) (.some (107, .true)) 107 (.some []) .true [] .false, .mk (.some 110) (.iaddr 2 (.t 108) (.t 109)) (.some (107, .true)) 108 (.some []) .true [] .false, .mk (.some
  111) (.faddr 0 (.t 110)) (.some (107, .true)) 109 (.some []) .true [] .false, .mk (.some 112) (.load 1 .false (.t 111)) (.some (107, .true)) 110 (.some []) .true [] .false, .mk
  (.some 113) (.mv (.t 6)) (.some (107, .true)) 111 (.some []) .true [] .false, .mk (.some 114) (.mv (.t 13)) (.some (107, .true)) 112 (.some []) .true [] .false, .mk (.some 115)
  (.bin .sub (.t 114) (.k (.int .i64 1))) (.some (107, .true)) 113 (.some []) .true [] .false, .mk (.some 116) (.iaddr 2 (.t 113) (.t 115)) (.some (107, .true)) 114 (.some []) .true
  [] .false, .mk (.some 117) (.faddr 1 (.t 116)) (.some (107, .true)) 115 (.some []) .true [] .false, .mk (.some 118) (.load 1 .false (.t 117)) (.some (107, .true)) 116 (.some [])
  .true [] .false, .mk (.some 119) (.bin .lss (.t 112) (.t 118)) (.some (107, .true)) 117 (.some []) .true [] .false, .mk (.some 120) (.pick (.t 107) (.t 119) (.k (.bool .false)))
  (.some (104, .false)) 118 (.some []) .true [] .false, .mk (.some 121) (.pick (.t 104) (.k (.bool .true)) (.t 120)) .none 119 (.some []) .true [] .false]) (.cond (.t 121) (.seq
  (.reg 120 1 [.mk (.some 4) (.mv (.k (.bool .false))) .none 120 .none .false [] .false]) .ret) .skip)) (.draw 121 14 [] [] [.mk (.some 122) (.mv (.t 12)) .none 121 (.some []) .true
  [] .false, .mk (.some 123) (.mv (.t 6)) .none 122 (.some []) .true [] .false, .mk (.some 124) (.mv (.t 13)) .none 123 (.some []) .true [] .false, .mk (.some 125) (.iaddr 2 (.t
  123) (.t 124)) .none 124 (.some []) .true [] .false, .mk (.some 126) (.faddr 1 (.t 125)) .none 125 (.some []) .true [] .false, .mk (.some 127) (.load 1 .false (.t 126)) .none 126
  (.some []) .true [] .false, .mk (.some 128) (.mv (.t 6)) .none 127 (.some []) .true [] .false, .mk (.some 129) (.mv (.t 13)) .none 128 (.some []) .true [] .false, .mk (.some 130)
  (.iaddr 2 (.t 128) (.t 129)) .none 129 (.some []) .true [] .false, .mk (.some 131) (.faddr 0 (.t 130)) .none 130 (.some []) .true [] .false, .mk (.some 132) (.load 1 .false (.t
  131)) .none 131 (.some []) .true [] .false, .mk (.some 133) (.bin .sub (.t 127) (.t 132)) .none 132 (.some []) .true [] .false, .mk (.some 134) (.bin .add (.t 122) (.t 133)) .none
  133 (.some []) .true [] .false, .mk (.some 12) (.mv (.t 134)) .none 134 (.some []) .true [] .false])))) (.reg 135 3 [.mk (.some 54) (.mv (.t 13)) .none 135 .none .false [] .false,
  .mk (.some 55) (.bin .add (.t 54) (.k (.int .i64 1))) .none 136 .none .false [] .false, .mk (.some 13) (.mv (.t 55)) .none 137 .none .false [] .false])))))) (.seq (.seq (.reg 138
  1 [.mk (.some 14) (.mv (.k (.int .i64 0))) .none 138 .none .false [] .false]) (.block 2 (.loop (.seq (.seq (.reg 139 5 [.mk (.some 135) (.mv (.t 14)) .none 139 .none .false []
  .false, .mk (.some 136) (.faddr 1 (.t 2)) .none 140 .none .false [] .false, .mk (.some 137) (.load 1 .false (.t 136)) .none 141 .none .false [] .false, .mk (.some 138) (.len (.t
  137)) .none 142 .none .false [] .false, .mk (.some 139) (.bin .lss (.t 135) (.t 138)) .none 143 .none .false [] .false]) (.cond (.t 139) .skip (.exit 2))) (.seq (.block 3 (.draw
  144 16 [] [] [.mk (.some 142) (.mv (.t 12)) .none 144 (.some []) .true [] .false, .mk (.some 143) (.faddr 1 (.t 2)) .none 145 (.some []) .true [] .false, .mk (.some 144) (.load 1
  .false (.t 143)) .none 146 (.some []) .true [] .false, .mk (.some 145) (.mv (.t 14)) .none 147 (.some []) .true [] .false, .mk (.some 146) (.iaddr 2 (.t 144) (.t 145)) .none 148
  (.some []) .true [] .false, .mk (.some 147) (.faddr 1 (.t 146)) .none 149 (.some []) .true [] .false, .mk (.some 148) (.load 1 .false (.t 147)) .none 150 (.some []) .true []
  .false, .mk (.some 149) (.faddr 1 (.t 2)) .none 151 (.some []) .true [] .false, .mk (.some 150) (.load 1 .false (.t 149)) .none 152 (.some []) .true [] .false, .mk (.some 151)
  (.mv (.t 14)) .none 153 (.some []) .true [] .false, .mk (.some 152) (.iaddr 2 (.t 150) (.t 151)) .none 154 (.some []) .true [] .false, .mk (.some 153) (.faddr 0 (.t 152)) .none
  155 (.some []) .true [] .false, .mk (.some 154) (.load 1 .false (.t 153)) .none 156 (.some []) .true [] .false, .mk (.some 155) (.bin .sub (.t 148) (.t 154)) .none 157 (.some [])
  .true [] .false, .mk (.some 156) (.bin .add (.t 142) (.t 155)) .none 158 (.some []) .true [] .false, .mk (.some 12) (.mv (.t 156)) .none 159 (.some []) .true [] .false])) (.reg
  160 3 [.mk (.some 140) (.mv (.t 14)) .none 160 .none .false [] .false, .mk (.some 141) (.bin .add (.t 140) (.k (.int .i64 1))) .none 161 .none .false [] .false, .mk (.some 14)
  (.mv (.t 141)) .none 162 .none .false [] .false])))))) (.seq (.seq (.reg 163 4 [.mk (.some 157) (.mv (.t 12)) .none 163 .none .false [] .false, .mk (.some 158) (.faddr 0 (.t 2))
  .none 164 .none .false [] .false, .mk (.some 159) (.load 1 .false (.t 158)) .none 165 .none .false [] .false, .mk (.some 160) (.bin .neq (.t 157) (.t 159)) .none 166 .none .false
  [] .false]) (.cond (.t 160) (.seq (.reg 167 1 [.mk (.some 4) (.mv (.k (.bool .false))) .none 167 .none .false [] .false]) .ret) .skip)) (.seq (.seq (.reg 168 3 [.mk (.some 161)
  (.load 4 .true (.t 2)) .none 168 .none .false [] .false, .mk (.some 162) (.mv (.t 5)) .none 169 .none .false [] .false, .mk (.some 163) (.call 14 [.t 161, .t 162]) .none 170 .none
  .false [] .false]) (.cond (.t 163) (.seq (.reg 171 10 [.mk (.some 164) (.mv (.t 10)) .none 171 .none .false [] .false, .mk (.some 165) (.bin .eql (.t 164) (.k (.int .i64 0)))
  .none 172 .none .false [] .false, .mk (.some 166) (.mv (.t 165)) .none 173 .none .false [] .false, .mk (.some 167) (.mv (.t 9)) (.some (166, .true)) 174 .none .false [] .false,
  .mk (.some 168) (.bin .eql (.t 167) (.k (.int .i64 7))) (.some (166, .true)) 175 .none .false [] .false, .mk (.some 169) (.pick (.t 166) (.t 168) (.k (.bool .false))) .none 176
  .none .false [] .false, .mk (.some 170) (.mv (.t 169)) .none 177 .none .false [] .false, .mk (.some 171) (.call 11 []) (.some (170, .true)) 178 .none .false [] .false, .mk (.some
  172) (.pick (.t 170) (.t 171) (.k (.bool .false))) .none 179 .none .false [] .false, .mk (.some 4) (.mv (.t 172)) .none 180 .none .false [] .false]) .ret) .skip)) (.seq (.reg 181
  15 [.mk (.some 173) (.mv (.t 10)) .none 181 .none .false [] .false, .mk (.some 174) (.bin .eql (.t 173) (.k (.int .i64 1))) .none 182 .none .false [] .false, .mk (.some 175) (.mv
  (.t 174)) .none 183 .none .false [] .false, .mk (.some 176) (.mv (.t 9)) (.some (175, .true)) 184 .none .false [] .false, .mk (.some 177) (.bin .eql (.t 176) (.k (.int .i64 0)))
  (.some (175, .true)) 185 .none .false [] .false, .mk (.some 178) (.pick (.t 175) (.t 177) (.k (.bool .false))) .none 186 .none .false [] .false, .mk (.some 179) (.mv (.t 178))
  .none 187 .none .false [] .false, .mk (.some 180) (.mv (.t 8)) (.some (179, .true)) 188 .none .false [] .false, .mk (.some 181) (.mv (.t 11)) (.some (179, .true)) 189 .none .false
  [] .false, .mk (.some 182) (.bin .eql (.t 180) (.t 181)) (.some (179, .true)) 190 .none .false [] .false, .mk (.some 183) (.pick (.t 179) (.t 182) (.k (.bool .false))) .none 191
  .none .false [] .false, .mk (.some 184) (.mv (.t 183)) .none 192 .none .false [] .false, .mk (.some 185) (.call 11 []) (.some (184, .true)) 193 .none .false [] .false, .mk (.some
  186) (.pick (.t 184) (.t 185) (.k (.bool .false))) .none 194 .none .false [] .false, .mk (.some 4) (.mv (.t 186)) .none 195 .none .false [] .false]) .ret)))))))))))
def rs4 : List IRes := [.tmp 4]
set_option maxRecDepth 100000 in
theorem comp4 : Comp Try.prog 4 ir4 rs4 187 := ⟨⟨_, _, 196, Try.func4, rfl, by kernel_rfl, by kernel_rfl, rfl⟩⟩
theorem body4 : HasBody Try.prog 4 := hasBody_of (by kernel_rfl)

def ir5 : IC :=
  .seq (.reg 0 3 [.mk (.some 3) (.box 24 (.t 0)) .none 0 .none .false [] .false, .mk (.some 4) (.box 45 (.t 1)) .none 1 .none .false [] .false, .mk (.some 6) (.mv (.k (.bool .false)))
  .none 2 .none .false [] .false]) (.seq (.seq (.reg 3 9 [.mk (.some 18) (.load 4 .true (.t 3)) .none 3 .none .false [] .false, .mk (.some 19) (.load 3 .true (.t 4)) .none 4 .none
  .false [] .false, .mk (.some 20) (.call 16 [.t 18, .t 19]) .none 5 .none .false [] .false, .mk (.some 21) (.un .not (.t 20)) .none 6 .none .false [] .false, .mk (.some 22) (.mv
  (.t 21)) .none 7 .none .false [] .false, .mk (.some 23) (.mv (.t 2)) (.some (22, .false)) 8 .none .false [] .false, .mk (.some 24) (.len (.t 23)) (.some (22, .false)) 9 .none
  .false [] .false, .mk (.some 25) (.bin .gtr (.t 24) (.k (.int .i64 45))) (.some (22, .false)) 10 .none .false [] .false, .mk (.some 26) (.pick (.t 22) (.k (.bool .true)) (.t 25))
  .none 11 .none .false [] .false]) (.cond (.t 26) (.seq (.reg 12 2 [.mk (.some 27) (.call 11 []) .none 12 .none .false [] .false, .mk (.some 6) (.mv (.t 27)) .none 13 .none .false
  [] .false]) .ret) .skip)) (.seq (.draw 14 10 [4, 3] [] [.mk (.some 29) (.load 4 .true (.t 3)) .none 14 (.some []) .true [] .false, .mk (.some 30) (.call 13 [.t 29]) .none 15
  (.some []) .true [] .false, .mk (.some 31) (.load 3 .true (.t 4)) .none 16 (.some []) .true [] .false, .mk (.some 32) (.call 18 [.t 31]) .none 17 (.some [15]) .false [] .false,
  .mk (.some 33) (.call 17 [.t 30, .t 32]) .none 18 (.some [17, 15]) .false [] .false, .mk (.some 28) (.mv (.t 33)) .none 19 (.some [15, 17, 18]) .true [] .false, .mk (.some 34)
  (.ext (.t 28) 0) .none 20 (.some [18, 17, 15]) .true [] .false, .mk (.some 35) (.ext (.t 28) 1) .none 21 (.some [18, 17, 15]) .true [] .false, .mk (.some 7) (.mv (.t 34)) .none 22
  (.some [15, 17, 18]) .true [] .false, .mk (.some 8) (.mv (.t 35)) .none 23 (.some [15, 17, 18]) .true [] .false]) (.seq (.draw 24 10 [4, 3] [] [.mk (.some 37) (.load 4 .true (.t
  3)) .none 24 (.some []) .true [] .false, .mk (.some 38) (.call 13 [.t 37]) .none 25 (.some []) .true [] .false, .mk (.some 39) (.load 3 .true (.t 4)) .none 26 (.some []) .true []
  .false, .mk (.some 40) (.call 18 [.t 39]) .none 27 (.some [25]) .false [] .false, .mk (.some 41) (.call 19 [.t 38, .t 40]) .none 28 (.some [27, 25]) .false [] .false, .mk (.some
  36) (.mv (.t 41)) .none 29 (.some [25, 27, 28]) .true [] .false, .mk (.some 42) (.ext (.t 36) 0) .none 30 (.some [28, 27, 25]) .true [] .false, .mk (.some 43) (.ext (.t 36) 1)
  .none 31 (.some [28, 27, 25]) .true [] .false, .mk (.some 9) (.mv (.t 42)) .none 32 (.some [25, 27, 28]) .true [] .false, .mk (.some 10) (.mv (.t 43)) .none 33 (.some [25, 27,
  28]) .true [] .false]) (.seq (.seq (.reg 34 2 [.mk (.some 44) (.mv (.t 8)) .none 34 .none .false [] .false, .mk (.some 45) (.bin .eql (.t 44) (.k (.int .i64 0))) .none 35 .none
  .false [] .false]) (.cond (.t 45) (.seq (.reg 36 6 [.mk (.some 46) (.mv (.t 10)) .none 36 .none .false [] .false, .mk (.some 47) (.bin .eql (.t 46) (.k (.int .i64 7))) .none 37
  .none .false [] .false, .mk (.some 48) (.mv (.t 47)) .none 38 .none .false [] .false, .mk (.some 49) (.call 11 []) (.some (48, .true)) 39 .none .false [] .false, .mk (.some 50)
  (.pick (.t 48) (.t 49) (.k (.bool .false))) .none 40 .none .false [] .false, .mk (.some 6) (.mv (.t 50)) .none 41 .none .false [] .false]) .ret) .skip)) (.seq (.reg 42 8 [.mk
  (.some 52) (.load 4 .true (.t 3)) .none 42 .none .false [] .false, .mk (.some 53) (.call 13 [.t 52]) .none 43 .none .false [] .false, .mk (.some 54) (.call 12 [.t 53]) .none 44
  .none .false [] .false, .mk (.some 51) (.mv (.t 54)) .none 45 .none .false [] .false, .mk (.some 55) (.ext (.t 51) 0) .none 46 .none .false [] .false, .mk (.some 56) (.ext (.t 51)
  1) .none 47 .none .false [] .false, .mk (.some 11) (.mv (.t 55)) .none 48 .none .false [] .false, .mk (.some 12) (.mv (.t 56)) .none 49 .none .false [] .false]) (.seq (.seq (.draw
  50 29 [2, 4, 3] [] [.mk (.some 57) (.mv (.t 8)) .none 50 (.some []) .true [] .false, .mk (.some 58) (.bin .neq (.t 57) (.k (.int .i64 9))) .none 51 (.some []) .true [] .false, .mk
  (.some 59) (.mv (.t 58)) .none 52 (.some []) .true [] .false, .mk (.some 60) (.mv (.t 10)) (.some (59, .false)) 53 (.some []) .true [] .false, .mk (.some 61) (.bin .neq (.t 60)
  (.k (.int .i64 0))) (.some (59, .false)) 54 (.some []) .true [] .false, .mk (.some 62) (.pick (.t 59) (.k (.bool .true)) (.t 61)) .none 55 (.some []) .true [] .false, .mk (.some
  63) (.mv (.t 62)) .none 56 (.some []) .true [] .false, .mk (.some 64) (.mv (.t 12)) (.some (63, .false)) 57 (.some []) .true [] .false, .mk (.some 65) (.bin .neq (.t 64) (.k (.int
  .i64 0))) (.some (63, .false)) 58 (.some []) .true [] .false, .mk (.some 66) (.pick (.t 63) (.k (.bool .true)) (.t 65)) .none 59 (.some []) .true [] .false, .mk (.some 67) (.mv
  (.t 66)) .none 60 (.some []) .true [] .false, .mk (.some 68) (.mv (.t 9)) (.some (67, .false)) 61 (.some []) .true [] .false, .mk (.some 69) (.bin .lss (.t 68) (.k (.int .i64 0)))
  (.some (67, .false)) 62 (.some []) .true [] .false, .mk (.some 70) (.pick (.t 67) (.k (.bool .true)) (.t 69)) .none 63 (.some []) .true [] .false, .mk (.some 71) (.mv (.t 70))
  .none 64 (.some []) .true [] .false, .mk (.some 72) (.mv (.t 9)) (.some (71, .false)) 65 (.some []) .true [] .false, .mk (.some 73) (.mv (.t 11)) (.some (71, .false)) 66 (.some
  []) .true [] .false, .mk (.some 74) (.len (.t 73)) (.some (71, .false)) 67 (.some []) .true [] .false, .mk (.some 75) (.bin .geq (.t 72) (.t 74)) (.some (71, .false)) 68 (.some
  []) .true [] .false, .mk (.some 76) (.pick (.t 71) (.k (.bool .true)) (.t 75)) .none 69 (.some []) .true [] .false, .mk (.some 77) (.mv (.t 76)) .none 70 (.some []) .true []
  .false, .mk (.some 78) (.load 4 .true (.t 3)) (.some (77, .false)) 71 (.some []) .true [] .false, .mk (.some 79) (.call 13 [.t 78]) (.some (77, .false)) 72 (.some []) .true []
  .false, .mk (.some 80) (.load 3 .true (.t 4)) (.some (77, .false)) 73 (.some []) .true [] .false, .mk (.some 81) (.call 18 [.t 80]) (.some (77, .false)) 74 (.some [72]) .false []
  .false, .mk (.some 82) (.mv (.t 2)) (.some (77, .false)) 75 (.some []) .true [] .false, .mk (.some 83) (.call 21 [.t 82]) (.some (77, .false)) 76 (.some [72, 74]) .false []
  .false, .mk (.some 84) (.call 20 [.t 79, .t 81, .t 83]) (.some (77, .false)) 77 (.some [76, 74, 72]) .false [] .false, .mk (.some 85) (.pick (.t 77) (.k (.bool .true)) (.t 84))
  .none 78 (.some [72, 74, 76, 77]) .true [] .false]) (.cond (.t 85) (.seq (.reg 79 1 [.mk (.some 6) (.mv (.k (.bool .false))) .none 79 .none .false [] .false]) .ret) .skip)) (.seq
  (.draw 80 9 [3] [] [.mk (.some 86) (.load 4 .true (.t 3)) .none 80 (.some []) .true [] .false, .mk (.some 87) (.mv (.t 11)) .none 81 (.some []) .true [] .false, .mk (.some 88)
  (.mv (.t 9)) .none 82 (.some []) .true [] .false, .mk (.some 89) (.iaddr 2 (.t 87) (.t 88)) .none 83 (.some []) .true [] .false, .mk (.some 90) (.faddr 1 (.t 89)) .none 84 (.some
  []) .true [] .false, .mk (.some 91) (.load 1 .false (.t 90)) .none 85 (.some []) .true [] .false, .mk (.some 92) (.call 22 [.t 86, .t 91]) .none 86 (.some []) .true [] .false, .mk
  (.some 13) (.alloc 24 [.int .i64 0, .slice .none 0 0, .int .i64 0, .int .i64 0]) .none 87 (.some []) .true [] .false, .mk .none (.store 4 (.t 13) (.t 92)) .none 88 (.some [86,
  87]) .true [] .false]) (.seq (.seq (.draw 89 7 [2, 4, 13] [] [.mk (.some 93) (.load 4 .true (.t 13)) .none 89 (.some []) .true [] .false, .mk (.some 94) (.call 13 [.t 93]) .none
  90 (.some []) .true [] .false, .mk (.some 95) (.load 3 .true (.t 4)) .none 91 (.some []) .true [] .false, .mk (.some 96) (.call 18 [.t 95]) .none 92 (.some [90]) .false [] .false,
  .mk (.some 97) (.mv (.t 2)) .none 93 (.some []) .true [] .false, .mk (.some 98) (.call 21 [.t 97]) .none 94 (.some [90, 92]) .false [] .false, .mk (.some 99) (.call 20 [.t 94, .t
  96, .t 98]) .none 95 (.some [94, 92, 90]) .false [] .false]) (.cond (.t 99) (.seq (.reg 96 1 [.mk (.some 6) (.mv (.k (.bool .false))) .none 96 .none .false [] .false]) .ret)
  .skip)) (.seq (.seq (.draw 97 10 [4, 13] [] [.mk (.some 101) (.load 4 .true (.t 13)) .none 97 (.some []) .true [] .false, .mk (.some 102) (.call 13 [.t 101]) .none 98 (.some [])
  .true [] .false, .mk (.some 103) (.load 3 .true (.t 4)) .none 99 (.some []) .true [] .false, .mk (.some 104) (.call 18 [.t 103]) .none 100 (.some [98]) .false [] .false, .mk
  (.some 105) (.call 17 [.t 102, .t 104]) .none 101 (.some [100, 98]) .false [] .false, .mk (.some 100) (.mv (.t 105)) .none 102 (.some [98, 100, 101]) .true [] .false, .mk (.some
  106) (.ext (.t 100) 0) .none 103 (.some [101, 100, 98]) .true [] .false, .mk (.some 107) (.ext (.t 100) 1) .none 104 (.some [101, 100, 98]) .true [] .false, .mk (.some 14) (.mv
  (.t 106)) .none 105 (.some [98, 100, 101]) .true [] .false, .mk (.some 15) (.mv (.t 107)) .none 106 (.some [98, 100, 101]) .true [] .false]) (.seq (.reg 107 2 [.mk (.some 108)
  (.mv (.t 15)) .none 107 .none .false [] .false, .mk (.some 109) (.bin .neq (.t 108) (.k (.int .i64 9))) .none 108 .none .false [] .false]) (.cond (.t 109) (.seq (.reg 109 1 [.mk
  (.some 6) (.mv (.k (.bool .false))) .none 109 .none .false [] .false]) .ret) .skip))) (.seq (.seq (.reg 110 2 [.mk (.some 110) (.mv (.t 9)) .none 110 .none .false [] .false, .mk
  (.some 111) (.bin .eql (.t 110) (.k (.int .i64 0))) .none 111 .none .false [] .false]) (.cond (.t 111) (.seq (.reg 112 2 [.mk (.some 112) (.call 11 []) .none 112 .none .false []
  .false, .mk (.some 6) (.mv (.t 112)) .none 113 .none .false [] .false]) .ret) .skip)) (.seq (.draw 114 17 [4, 3] [] [.mk (.some 114) (.load 4 .true (.t 3)) .none 114 (.some [])
  .true [] .false, .mk (.some 115) (.mv (.t 11)) .none 115 (.some []) .true [] .false, .mk (.some 116) (.mv (.t 9)) .none 116 (.some []) .true [] .false, .mk (.some 117) (.bin .sub
  (.t 116) (.k (.int .i64 1))) .none 117 (.some []) .true [] .false, .mk (.some 118) (.iaddr 2 (.t 115) (.t 117)) .none 118 (.some []) .true [] .false, .mk (.some 119) (.faddr 1 (.t
  118)) .none 119 (.some []) .true [] .false, .mk (.some 120) (.load 1 .false (.t 119)) .none 120 (.some []) .true [] .false, .mk (.some 121) (.call 22 [.t 114, .t 120]) .none 121
  (.some []) .true [] .false, .mk (.some 122) (.call 13 [.t 121]) .none 122 (.some [121]) .false [] .false, .mk (.some 123) (.load 3 .true (.t 4)) .none 123 (.some []) .true []
  .false, .mk (.some 124) (.call 18 [.t 123]) .none 124 (.some [121, 122]) .false [] .false, .mk (.some 125) (.call 17 [.t 122, .t 124]) .none 125 (.some [124, 121, 122]) .false []
  .false, .mk (.some 113) (.mv (.t 125)) .none 126 (.some [122, 121, 124, 125]) .true [] .false, .mk (.some 126) (.ext (.t 113) 0) .none 127 (.some [125, 124, 121, 122]) .true []
  .false, .mk (.some 127) (.ext (.t 113) 1) .none 128 (.some [125, 124, 121, 122]) .true [] .false, .mk (.some 16) (.mv (.t 126)) .none 129 (.some [122, 121, 124, 125]) .true []
  .false, .mk (.some 17) (.mv (.t 127)) .none 130 (.some [122, 121, 124, 125]) .true [] .false]) (.seq (.reg 131 6 [.mk (.some 128) (.mv (.t 17)) .none 131 .none .false [] .false,
  .mk (.some 129) (.bin .eql (.t 128) (.k (.int .i64 0))) .none 132 .none .false [] .false, .mk (.some 130) (.mv (.t 129)) .none 133 .none .false [] .false, .mk (.some 131) (.call
  11 []) (.some (130, .true)) 134 .none .false [] .false, .mk (.some 132) (.pick (.t 130) (.t 131) (.k (.bool .false))) .none 135 .none .false [] .false, .mk (.some 6) (.mv (.t
  132)) .none 136 .none .false [] .false]) .ret))))))))))))
def rs5 : List IRes := [.tmp 6]
set_option maxRecDepth 100000 in
theorem comp5 : Comp Try.prog 5 ir5 rs5 133 := ⟨⟨_, _, 137, Try.func5, rfl, by kernel_rfl, by kernel_rfl, rfl⟩⟩
theorem body5 : HasBody Try.prog 5 := hasBody_of (by kernel_rfl)

def ir6 : IC :=
  .seq (.reg 0 4 [.mk (.some 6) (.box 24 (.t 0)) .none 0 .none .false [] .false, .mk (.some 7) (.box 45 (.t 1)) .none 1 .none .false [] .false, .mk (.some 11) (.box 62 (.t 5)) .none 2
  .none .false [] .false, .mk (.some 12) (.mv (.k (.bool .false))) .none 3 .none .false [] .false]) (.seq (.seq (.reg 4 4 [.mk (.some 21) (.load 4 .true (.t 6)) .none 4 .none .false
  [] .false, .mk (.some 22) (.load 3 .true (.t 7)) .none 5 .none .false [] .false, .mk (.some 23) (.call 16 [.t 21, .t 22]) .none 6 .none .false [] .false, .mk (.some 24) (.un .not
  (.t 23)) .none 7 .none .false [] .false]) (.cond (.t 24) (.seq (.reg 8 2 [.mk (.some 25) (.call 11 []) .none 8 .none .false [] .false, .mk (.some 12) (.mv (.t 25)) .none 9 .none
  .false [] .false]) .ret) .skip)) (.seq (.reg 10 3 [.mk (.some 26) (.load 3 .true (.t 7)) .none 10 .none .false [] .false, .mk (.some 13) (.alloc 45 [.slice .none 0 0, .int .i64 0,
  .int .i64 0]) .none 11 .none .false [] .false, .mk .none (.store 3 (.t 13) (.t 26)) .none 12 .none .false [] .false]) (.seq (.reg 13 6 [.mk (.some 27) (.bsl 62 3 0 [] []) .none 13
  .none .false [] .false, .mk (.some 28) (.faddr 0 (.t 7)) .none 14 .none .false [] .false, .mk (.some 29) (.load 1 .false (.t 28)) .none 15 .none .false [] .false, .mk (.some 30)
  (.app 62 3 24 (.t 27) (.t 29)) .none 16 .none .false [] .false, .mk (.some 31) (.faddr 0 (.t 13)) .none 17 .none .false [] .false, .mk .none (.store 1 (.t 31) (.t 30)) .none 18
  .none .false [] .false]) (.seq (.draw 19 10 [] [] [.mk (.some 32) (.faddr 0 (.t 13)) .none 19 (.some []) .true [] .false, .mk (.some 33) (.load 1 .false (.t 32)) .none 20 (.some
  []) .true [] .false, .mk (.some 34) (.mv (.t 3)) .none 21 (.some []) .true [] .false, .mk (.some 35) (.conv .i64 (.t 34)) .none 22 (.some []) .true [] .false, .mk (.some 36)
  (.faddr 0 (.t 13)) .none 23 (.some []) .true [] .false, .mk (.some 37) (.load 1 .false (.t 36)) .none 24 (.some []) .true [] .false, .mk (.some 38) (.len (.t 37)) .none 25 (.some
  []) .true [] .false, .mk (.some 39) (.bin .rem (.t 35) (.t 38)) .none 26 (.some []) .true [] .false, .mk (.some 40) (.iaddr 3 (.t 33) (.t 39)) .none 27 (.some []) .true [] .false,
  .mk (.some 14) (.mv (.t 40)) .none 28 (.some []) .true [] .false]) (.seq (.seq (.reg 29 2 [.mk (.some 41) (.mv (.t 2)) .none 29 .none .false [] .false, .mk (.some 42) (.bin .rem
  (.t 41) (.k (.int .u8 5))) .none 30 .none .false [] .false]) (.block 0 (.seq (.reg 31 2 [.mk (.some 54) (.bin .eql (.t 42) (.k (.int .u8 0))) .none 31 .none .false [] .false, .mk
  (.some 53) (.mv (.t 54)) .none 32 .none .false [] .false]) (.cond (.t 53) (.reg 33 8 [.mk (.some 55) (.faddr 1 (.t 13)) .none 33 .none .false [] .false, .mk (.some 56) (.load 1
  .false (.t 55)) .none 34 .none .false [] .false, .mk (.some 57) (.mv (.t 4)) .none 35 .none .false [] .false, .mk (.some 58) (.conv .i64 (.t 57)) .none 36 .none .false [] .false,
  .mk (.some 59) (.bin .add (.t 56) (.t 58)) .none 37 .none .false [] .false, .mk (.some 60) (.mm .false (.k (.int .i64 36000)) (.t 59)) .none 38 .none .false [] .false, .mk (.some
  61) (.faddr 1 (.t 13)) .none 39 .none .false [] .false, .mk .none (.store 1 (.t 61) (.t 60)) .none 40 .none .false [] .false]) (.seq (.reg 41 2 [.mk (.some 63) (.bin .eql (.t 42)
  (.k (.int .u8 1))) .none 41 .none .false [] .false, .mk (.some 62) (.mv (.t 63)) .none 42 .none .false [] .false]) (.cond (.t 62) (.reg 43 8 [.mk (.some 64) (.faddr 2 (.t 13))
  .none 43 .none .false [] .false, .mk (.some 65) (.load 1 .false (.t 64)) .none 44 .none .false [] .false, .mk (.some 66) (.mv (.t 4)) .none 45 .none .false [] .false, .mk (.some
  67) (.conv .i64 (.t 66)) .none 46 .none .false [] .false, .mk (.some 68) (.bin .sub (.t 65) (.t 67)) .none 47 .none .false [] .false, .mk (.some 69) (.mm .true (.k (.int .i64 0))
  (.t 68)) .none 48 .none .false [] .false, .mk (.some 70) (.faddr 2 (.t 13)) .none 49 .none .false [] .false, .mk .none (.store 1 (.t 70) (.t 69)) .none 50 .none .false [] .false])
  (.seq (.reg 51 2 [.mk (.some 72) (.bin .eql (.t 42) (.k (.int .u8 2))) .none 51 .none .false [] .false, .mk (.some 71) (.mv (.t 72)) .none 52 .none .false [] .false]) (.cond (.t
  71) (.reg 53 12 [.mk (.some 73) (.mv (.t 14)) .none 53 .none .false [] .false, .mk (.some 74) (.mv (.t 14)) .none 54 .none .false [] .false, .mk (.some 75) (.nilc (.t 74)) .none
  55 .none .false [] .false, .mk (.some 76) (.faddr 2 (.t 75)) .none 56 .none .false [] .false, .mk (.some 77) (.load 1 .false (.t 76)) .none 57 .none .false [] .false, .mk (.some
  78) (.mv (.t 4)) .none 58 .none .false [] .false, .mk (.some 79) (.conv .i64 (.t 78)) .none 59 .none .false [] .false, .mk (.some 80) (.bin .sub (.t 77) (.t 79)) .none 60 .none
  .false [] .false, .mk (.some 81) (.mm .true (.k (.int .i64 0)) (.t 80)) .none 61 .none .false [] .false, .mk (.some 82) (.nilc (.t 73)) .none 62 .none .false [] .false, .mk (.some
  83) (.faddr 2 (.t 82)) .none 63 .none .false [] .false, .mk .none (.store 1 (.t 83) (.t 81)) .none 64 .none .false [] .false]) (.seq (.reg 65 2 [.mk (.some 85) (.bin .eql (.t 42)
  (.k (.int .u8 3))) .none 65 .none .false [] .false, .mk (.some 84) (.mv (.t 85)) .none 66 .none .false [] .false]) (.cond (.t 84) (.draw 67 20 [] [] [.mk (.some 86) (.mv (.t 14))
  .none 67 (.some []) .true [] .false, .mk (.some 87) (.mv (.t 14)) .none 68 (.some []) .true [] .false, .mk (.some 88) (.nilc (.t 87)) .none 69 (.some []) .true [] .false, .mk
  (.some 89) (.faddr 0 (.t 88)) .none 70 (.some []) .true [] .false, .mk (.some 90) (.faddr 0 (.t 89)) .none 71 (.some []) .true [] .false, .mk (.some 91) (.load 1 .false (.t 90))
  .none 72 (.some []) .true [] .false, .mk (.some 92) (.mv (.t 14)) .none 73 (.some []) .true [] .false, .mk (.some 93) (.nilc (.t 92)) .none 74 (.some []) .true [] .false, .mk
  (.some 94) (.faddr 0 (.t 93)) .none 75 (.some []) .true [] .false, .mk (.some 95) (.faddr 1 (.t 94)) .none 76 (.some []) .true [] .false, .mk (.some 96) (.load 1 .false (.t 95))
  .none 77 (.some []) .true [] .false, .mk (.some 97) (.mv (.t 4)) .none 78 (.some []) .true [] .false, .mk (.some 98) (.conv .i64 (.t 97)) .none 79 (.some []) .true [] .false, .mk
  (.some 99) (.bin .rem (.t 98) (.k (.int .i64 5))) .none 80 (.some []) .true [] .false, .mk (.some 100) (.bin .sub (.t 96) (.t 99)) .none 81 (.some []) .true [] .false, .mk (.some
  101) (.mm .true (.t 91) (.t 100)) .none 82 (.some []) .true [] .false, .mk (.some 102) (.nilc (.t 86)) .none 83 (.some []) .true [] .false, .mk (.some 103) (.faddr 0 (.t 102))
  .none 84 (.some []) .true [] .false, .mk (.some 104) (.faddr 1 (.t 103)) .none 85 (.some []) .true [] .false, .mk .none (.store 1 (.t 104) (.t 101)) .none 86 (.some []) .true []
  .false]) (.seq (.reg 87 4 [.mk (.some 43) (.faddr 0 (.t 13)) .none 87 .none .false [] .false, .mk (.some 44) (.load 1 .false (.t 43)) .none 88 .none .false [] .false, .mk (.some
  45) (.len (.t 44)) .none 89 .none .false [] .false, .mk (.some 46) (.bin .lss (.t 45) (.k (.int .i64 5))) .none 90 .none .false [] .false]) (.cond (.t 46) (.reg 91 7 [.mk (.some
  47) (.faddr 0 (.t 13)) .none 91 .none .false [] .false, .mk (.some 48) (.load 1 .false (.t 47)) .none 92 .none .false [] .false, .mk (.some 49) (.load 3 .true (.t 11)) .none 93
  .none .false [] .false, .mk (.some 50) (.bsl 62 3 1 [.int .i64 0, .int .i64 0, .int .i64 0] [(0, .t 49)]) .none 94 .none .false [] .false, .mk (.some 51) (.app 62 3 24 (.t 48) (.t
  50)) .none 95 .none .false [] .false, .mk (.some 52) (.faddr 0 (.t 13)) .none 96 .none .false [] .false, .mk .none (.store 1 (.t 52) (.t 51)) .none 97 .none .false [] .false])
  .skip)))))))))))) (.seq (.seq (.reg 98 3 [.mk (.some 105) (.load 3 .true (.t 13)) .none 98 .none .false [] .false, .mk (.some 106) (.call 23 [.t 105]) .none 99 .none .false []
  .false, .mk (.some 107) (.un .not (.t 106)) .none 100 .none .false [] .false]) (.cond (.t 107) (.seq (.reg 101 2 [.mk (.some 108) (.call 11 []) .none 101 .none .false [] .false,
  .mk (.some 12) (.mv (.t 108)) .none 102 .none .false [] .false]) .ret) .skip)) (.seq (.draw 103 10 [7, 6] [] [.mk (.some 110) (.load 4 .true (.t 6)) .none 103 (.some []) .true []
  .false, .mk (.some 111) (.call 13 [.t 110]) .none 104 (.some []) .true [] .false, .mk (.some 112) (.load 3 .true (.t 7)) .none 105 (.some []) .true [] .false, .mk (.some 113)
  (.call 18 [.t 112]) .none 106 (.some [104]) .false [] .false, .mk (.some 114) (.call 17 [.t 111, .t 113]) .none 107 (.some [106, 104]) .false [] .false, .mk (.some 109) (.mv (.t
  114)) .none 108 (.some [104, 106, 107]) .true [] .false, .mk (.some 115) (.ext (.t 109) 0) .none 109 (.some [107, 106, 104]) .true [] .false, .mk (.some 116) (.ext (.t 109) 1)
  .none 110 (.some [107, 106, 104]) .true [] .false, .mk (.some 15) (.mv (.t 115)) .none 111 (.some [104, 106, 107]) .true [] .false, .mk (.some 16) (.mv (.t 116)) .none 112 (.some
  [104, 106, 107]) .true [] .false]) (.seq (.seq (.reg 113 2 [.mk (.some 117) (.mv (.t 16)) .none 113 .none .false [] .false, .mk (.some 118) (.bin .eql (.t 117) (.k (.int .i64 0)))
  .none 114 .none .false [] .false]) (.cond (.t 118) (.seq (.draw 115 11 [15, 13, 6] [] [.mk (.some 119) (.load 4 .true (.t 6)) .none 115 (.some []) .true [] .false, .mk (.some 120)
  (.call 13 [.t 119]) .none 116 (.some []) .true [] .false, .mk (.some 121) (.load 3 .true (.t 13)) .none 117 (.some []) .true [] .false, .mk (.some 122) (.call 18 [.t 121]) .none
  118 (.some [116]) .false [] .false, .mk (.some 123) (.mv (.t 15)) .none 119 (.some []) .true [] .false, .mk (.some 124) (.call 21 [.t 123]) .none 120 (.some [116, 118]) .false []
  .false, .mk (.some 125) (.call 20 [.t 120, .t 122, .t 124]) .none 121 (.some [120, 118, 116]) .false [] .false, .mk (.some 126) (.mv (.t 125)) .none 122 (.some [116, 118, 120,
  121]) .true [] .false, .mk (.some 127) (.call 11 []) (.some (126, .true)) 123 (.some [121, 120, 118, 116]) .false [] .false, .mk (.some 128) (.pick (.t 126) (.t 127) (.k (.bool
  .false))) .none 124 (.some [123, 121, 120, 118, 116]) .true [] .false, .mk (.some 12) (.mv (.t 128)) .none 125 (.some [116, 118, 120, 121, 123]) .true [] .false]) .ret) .skip))
  (.seq (.draw 126 10 [7, 6] [] [.mk (.some 130) (.load 4 .true (.t 6)) .none 126 (.some []) .true [] .false, .mk (.some 131) (.call 13 [.t 130]) .none 127 (.some []) .true []
  .false, .mk (.some 132) (.load 3 .true (.t 7)) .none 128 (.some []) .true [] .false, .mk (.some 133) (.call 18 [.t 132]) .none 129 (.some [127]) .false [] .false, .mk (.some 134)
  (.call 19 [.t 131, .t 133]) .none 130 (.some [129, 127]) .false [] .false, .mk (.some 129) (.mv (.t 134)) .none 131 (.some [127, 129, 130]) .true [] .false, .mk (.some 135) (.ext
  (.t 129) 0) .none 132 (.some [130, 129, 127]) .true [] .false, .mk (.some 136) (.ext (.t 129) 1) .none 133 (.some [130, 129, 127]) .true [] .false, .mk (.some 17) (.mv (.t 135))
  .none 134 (.some [127, 129, 130]) .true [] .false, .mk (.some 18) (.mv (.t 136)) .none 135 (.some [127, 129, 130]) .true [] .false]) (.seq (.draw 136 10 [13, 6] [] [.mk (.some
  138) (.load 4 .true (.t 6)) .none 136 (.some []) .true [] .false, .mk (.some 139) (.call 13 [.t 138]) .none 137 (.some []) .true [] .false, .mk (.some 140) (.load 3 .true (.t 13))
  .none 138 (.some []) .true [] .false, .mk (.some 141) (.call 18 [.t 140]) .none 139 (.some [137]) .false [] .false, .mk (.some 142) (.call 19 [.t 139, .t 141]) .none 140 (.some
  [139, 137]) .false [] .false, .mk (.some 137) (.mv (.t 142)) .none 141 (.some [137, 139, 140]) .true [] .false, .mk (.some 143) (.ext (.t 137) 0) .none 142 (.some [140, 139, 137])
  .true [] .false, .mk (.some 144) (.ext (.t 137) 1) .none 143 (.some [140, 139, 137]) .true [] .false, .mk (.some 19) (.mv (.t 143)) .none 144 (.some [137, 139, 140]) .true []
  .false, .mk (.some 20) (.mv (.t 144)) .none 145 (.some [137, 139, 140]) .true [] .false]) (.seq (.reg 146 23 [.mk (.some 145) (.mv (.t 16)) .none 146 .none .false [] .false, .mk
  (.some 146) (.bin .eql (.t 145) (.k (.int .i64 9))) .none 147 .none .false [] .false, .mk (.some 147) (.mv (.t 146)) .none 148 .none .false [] .false, .mk (.some 148) (.mv (.t
  18)) (.some (147, .true)) 149 .none .false [] .false, .mk (.some 149) (.bin .eql (.t 148) (.k (.int .i64 0))) (.some (147, .true)) 150 .none .false [] .false, .mk (.some 150)
  (.pick (.t 147) (.t 149) (.k (.bool .false))) .none 151 .none .false [] .false, .mk (.some 151) (.mv (.t 150)) .none 152 .none .false [] .false, .mk (.some 152) (.mv (.t 20))
  (.some (151, .true)) 153 .none .false [] .false, .mk (.some 153) (.bin .eql (.t 152) (.k (.int .i64 7))) (.some (151, .true)) 154 .none .false [] .false, .mk (.some 154) (.mv (.t
  153)) (.some (151, .true)) 155 .none .false [] .false, .mk (.some 155) (.mv (.t 20)) (.some (154, .false)) 156 .none .false [] .false, .mk (.some 156) (.bin .eql (.t 155) (.k
  (.int .i64 0))) (.some (154, .false)) 157 .none .false [] .false, .mk (.some 157) (.mv (.t 156)) (.some (154, .false)) 158 .none .false [] .false, .mk (.some 158) (.mv (.t 19))
  (.some (157, .true)) 159 .none .false [] .false, .mk (.some 159) (.mv (.t 17)) (.some (157, .true)) 160 .none .false [] .false, .mk (.some 160) (.bin .geq (.t 158) (.t 159))
  (.some (157, .true)) 161 .none .false [] .false, .mk (.some 161) (.pick (.t 157) (.t 160) (.k (.bool .false))) (.some (154, .false)) 162 .none .false [] .false, .mk (.some 162)
  (.pick (.t 154) (.k (.bool .true)) (.t 161)) (.some (151, .true)) 163 .none .false [] .false, .mk (.some 163) (.pick (.t 151) (.t 162) (.k (.bool .false))) .none 164 .none .false
  [] .false, .mk (.some 164) (.mv (.t 163)) .none 165 .none .false [] .false, .mk (.some 165) (.call 11 []) (.some (164, .true)) 166 .none .false [] .false, .mk (.some 166) (.pick
  (.t 164) (.t 165) (.k (.bool .false))) .none 167 .none .false [] .false, .mk (.some 12) (.mv (.t 166)) .none 168 .none .false [] .false]) .ret)))))))))))
def rs6 : List IRes := [.tmp 12]
set_option maxRecDepth 100000 in
theorem comp6 : Comp Try.prog 6 ir6 rs6 167 := ⟨⟨_, _, 169, Try.func6, rfl, by kernel_rfl, by kernel_rfl, rfl⟩⟩
theorem body6 : HasBody Try.prog 6 := hasBody_of (by kernel_rfl)

def ir7 : IC :=
  .seq (.reg 0 3 [.mk (.some 3) (.box 24 (.t 0)) .none 0 .none .false [] .false, .mk (.some 4) (.box 45 (.t 1)) .none 1 .none .false [] .false, .mk (.some 6) (.mv (.k (.bool .false)))
  .none 2 .none .false [] .false]) (.seq (.seq (.reg 3 4 [.mk (.some 18) (.load 4 .true (.t 3)) .none 3 .none .false [] .false, .mk (.some 19) (.load 3 .true (.t 4)) .none 4 .none
  .false [] .false, .mk (.some 20) (.call 16 [.t 18, .t 19]) .none 5 .none .false [] .false, .mk (.some 21) (.un .not (.t 20)) .none 6 .none .false [] .false]) (.cond (.t 21) (.seq
  (.reg 7 2 [.mk (.some 22) (.call 11 []) .none 7 .none .false [] .false, .mk (.some 6) (.mv (.t 22)) .none 8 .none .false [] .false]) .ret) .skip)) (.seq (.draw 9 10 [4, 3] [] [.mk
  (.some 24) (.load 4 .true (.t 3)) .none 9 (.some []) .true [] .false, .mk (.some 25) (.call 13 [.t 24]) .none 10 (.some []) .true [] .false, .mk (.some 26) (.load 3 .true (.t 4))
  .none 11 (.some []) .true [] .false, .mk (.some 27) (.call 18 [.t 26]) .none 12 (.some [10]) .false [] .false, .mk (.some 28) (.call 17 [.t 25, .t 27]) .none 13 (.some [12, 10])
  .false [] .false, .mk (.some 23) (.mv (.t 28)) .none 14 (.some [10, 12, 13]) .true [] .false, .mk (.some 29) (.ext (.t 23) 0) .none 15 (.some [13, 12, 10]) .true [] .false, .mk
  (.some 30) (.ext (.t 23) 1) .none 16 (.some [13, 12, 10]) .true [] .false, .mk (.some 7) (.mv (.t 29)) .none 17 (.some [10, 12, 13]) .true [] .false, .mk (.some 8) (.mv (.t 30))
  .none 18 (.some [10, 12, 13]) .true [] .false]) (.seq (.seq (.reg 19 2 [.mk (.some 31) (.mv (.t 8)) .none 19 .none .false [] .false, .mk (.some 32) (.bin .neq (.t 31) (.k (.int
  .i64 0))) .none 20 .none .false [] .false]) (.cond (.t 32) (.seq (.reg 21 6 [.mk (.some 33) (.mv (.t 8)) .none 21 .none .false [] .false, .mk (.some 34) (.bin .eql (.t 33) (.k
  (.int .i64 9))) .none 22 .none .false [] .false, .mk (.some 35) (.mv (.t 34)) .none 23 .none .false [] .false, .mk (.some 36) (.call 11 []) (.some (35, .true)) 24 .none .false []
  .false, .mk (.some 37) (.pick (.t 35) (.t 36) (.k (.bool .false))) .none 25 .none .false [] .false, .mk (.some 6) (.mv (.t 37)) .none 26 .none .false [] .false]) .ret) .skip))
  (.seq (.reg 27 8 [.mk (.some 39) (.load 4 .true (.t 3)) .none 27 .none .false [] .false, .mk (.some 40) (.call 13 [.t 39]) .none 28 .none .false [] .false, .mk (.some 41) (.call
  12 [.t 40]) .none 29 .none .false [] .false, .mk (.some 38) (.mv (.t 41)) .none 30 .none .false [] .false, .mk (.some 42) (.ext (.t 38) 0) .none 31 .none .false [] .false, .mk
  (.some 43) (.ext (.t 38) 1) .none 32 .none .false [] .false, .mk (.some 9) (.mv (.t 42)) .none 33 .none .false [] .false, .mk (.some 10) (.mv (.t 43)) .none 34 .none .false []
  .false]) (.seq (.seq (.draw 35 11 [7, 4] [] [.mk (.some 44) (.mv (.t 10)) .none 35 (.some []) .true [] .false, .mk (.some 45) (.bin .neq (.t 44) (.k (.int .i64 0))) .none 36
  (.some []) .true [] .false, .mk (.some 46) (.mv (.t 45)) .none 37 (.some []) .true [] .false, .mk (.some 47) (.load 3 .true (.t 4)) (.some (46, .false)) 38 (.some []) .true []
  .false, .mk (.some 48) (.mv (.t 9)) (.some (46, .false)) 39 (.some []) .true [] .false, .mk (.some 49) (.len (.t 48)) (.some (46, .false)) 40 (.some []) .true [] .false, .mk
  (.some 50) (.mksp 41 2 16 [.int .i64 0, .int .i64 0] (.t 49)) (.some (46, .false)) 41 (.some []) .true [] .false, .mk (.some 51) (.mv (.t 7)) (.some (46, .false)) 42 (.some [])
  .true [] .false, .mk (.some 52) (.call 24 [.t 47, .t 50, .t 51]) (.some (46, .false)) 43 (.some [41]) .false [] .false, .mk (.some 53) (.un .not (.t 52)) (.some (46, .false)) 44
  (.some [41, 43]) .true [] .false, .mk (.some 54) (.pick (.t 46) (.k (.bool .true)) (.t 53)) .none 45 (.some [43, 41]) .true [] .false]) (.cond (.t 54) (.seq (.reg 46 1 [.mk (.some
  6) (.mv (.k (.bool .false))) .none 46 .none .false [] .false]) .ret) .skip)) (.seq (.reg 47 1 [.mk (.some 11) (.mv (.k (.slice .none 0 0))) .none 47 .none .false [] .false]) (.seq
  (.seq (.reg 48 1 [.mk (.some 12) (.mv (.k (.int .i64 0))) .none 48 .none .false [] .false]) (.block 0 (.loop (.seq (.seq (.reg 49 4 [.mk (.some 55) (.mv (.t 12)) .none 49 .none
  .false [] .false, .mk (.some 56) (.mv (.t 7)) .none 50 .none .false [] .false, .mk (.some 57) (.len (.t 56)) .none 51 .none .false [] .false, .mk (.some 58) (.bin .lss (.t 55) (.t
  57)) .none 52 .none .false [] .false]) (.cond (.t 58) .skip (.exit 0))) (.seq (.block 1 (.seq (.draw 53 10 [] [] [.mk (.some 61) (.faddr 0 (.t 4)) .none 53 (.some []) .true []
  .false, .mk (.some 62) (.load 1 .false (.t 61)) .none 54 (.some []) .true [] .false, .mk (.some 63) (.mv (.t 7)) .none 55 (.some []) .true [] .false, .mk (.some 64) (.mv (.t 12))
  .none 56 (.some []) .true [] .false, .mk (.some 65) (.iaddr 1 (.t 63) (.t 64)) .none 57 (.some []) .true [] .false, .mk (.some 66) (.load 1 .false (.t 65)) .none 58 (.some [])
  .true [] .false, .mk (.some 67) (.iaddr 3 (.t 62) (.t 66)) .none 59 (.some []) .true [] .false, .mk (.some 68) (.load 3 .true (.t 67)) .none 60 (.some []) .true [] .false, .mk
  (.some 13) (.alloc 62 [.int .i64 0, .int .i64 0, .int .i64 0]) .none 61 (.some []) .true [] .false, .mk .none (.store 3 (.t 13) (.t 68)) .none 62 (.some [61]) .true [] .false])
  (.draw 63 22 [4, 2, 13] [] [.mk (.some 69) (.mv (.t 11)) .none 63 (.some []) .true [] .false, .mk (.some 70) (.faddr 0 (.t 13)) .none 64 (.some []) .true [] .false, .mk (.some 71)
  (.faddr 0 (.t 70)) .none 65 (.some []) .true [] .false, .mk (.some 72) (.load 1 .false (.t 71)) .none 66 (.some []) .true [] .false, .mk (.some 73) (.faddr 0 (.t 13)) .none 67
  (.some []) .true [] .false, .mk (.some 74) (.faddr 1 (.t 73)) .none 68 (.some []) .true [] .false, .mk (.some 75) (.load 1 .false (.t 74)) .none 69 (.some []) .true [] .false, .mk
  (.some 76) (.mv (.t 2)) .none 70 (.some []) .true [] .false, .mk (.some 77) (.mv (.t 12)) .none 71 (.some []) .true [] .false, .mk (.some 78) (.bin .mul (.k (.int .i64 2)) (.t
  77)) .none 72 (.some []) .true [] .false, .mk (.some 79) (.call 25 [.t 72, .t 75, .t 76, .t 78]) .none 73 (.some []) .true [] .false, .mk (.some 80) (.faddr 2 (.t 4)) .none 74
  (.some []) .true [] .false, .mk (.some 81) (.load 1 .false (.t 80)) .none 75 (.some []) .true [] .false, .mk (.some 82) (.mv (.t 2)) .none 76 (.some []) .true [] .false, .mk
  (.some 83) (.mv (.t 12)) .none 77 (.some []) .true [] .false, .mk (.some 84) (.bin .mul (.k (.int .i64 2)) (.t 83)) .none 78 (.some []) .true [] .false, .mk (.some 85) (.bin .add
  (.t 84) (.k (.int .i64 1))) .none 79 (.some []) .true [] .false, .mk (.some 86) (.call 25 [.k (.int .i64 0), .t 81, .t 82, .t 85]) .none 80 (.some [73]) .false [] .false, .mk
  (.some 87) (.bld [(0, 1), (1, 1)] [.int .i64 0, .int .i64 0] [(0, .t 79), (1, .t 86)]) .none 81 (.some [80, 73]) .true [] .false, .mk (.some 88) (.bsl 71 2 1 [.int .i64 0, .int
  .i64 0] [(0, .t 87)]) .none 82 (.some [73, 80]) .true [] .false, .mk (.some 89) (.app 71 2 16 (.t 69) (.t 88)) .none 83 (.some [80, 73, 82]) .false [] .false, .mk (.some 11) (.mv
  (.t 89)) .none 84 (.some [82, 73, 80, 83]) .true [] .false]))) (.reg 85 3 [.mk (.some 59) (.mv (.t 12)) .none 85 .none .false [] .false, .mk (.some 60) (.bin .add (.t 59) (.k
  (.int .i64 1))) .none 86 .none .false [] .false, .mk (.some 12) (.mv (.t 60)) .none 87 .none .false [] .false])))))) (.seq (.draw 88 13 [11, 7, 4, 3] [] [.mk (.some 91) (.load 4
  .true (.t 3)) .none 88 (.some []) .true [] .false, .mk (.some 92) (.call 13 [.t 91]) .none 89 (.some []) .true [] .false, .mk (.some 93) (.load 3 .true (.t 4)) .none 90 (.some [])
  .true [] .false, .mk (.some 94) (.call 18 [.t 93]) .none 91 (.some [89]) .false [] .false, .mk (.some 95) (.mv (.t 7)) .none 92 (.some []) .true [] .false, .mk (.some 96) (.call
  21 [.t 95]) .none 93 (.some [89, 91]) .false [] .false, .mk (.some 97) (.mv (.t 11)) .none 94 (.some []) .true [] .false, .mk (.some 98) (.call 26 [.t 92, .t 94, .t 96, .t 97])
  .none 95 (.some [93, 91, 89]) .false [] .false, .mk (.some 90) (.mv (.t 98)) .none 96 (.some [89, 91, 93, 95]) .true [] .false, .mk (.some 99) (.ext (.t 90) 0) .none 97 (.some
  [95, 93, 91, 89]) .true [] .false, .mk (.some 100) (.ext (.t 90) 1) .none 98 (.some [95, 93, 91, 89]) .true [] .false, .mk (.some 14) (.mv (.t 99)) .none 99 (.some [89, 91, 93,
  95]) .true [] .false, .mk (.some 15) (.mv (.t 100)) .none 100 (.some [89, 91, 93, 95]) .true [] .false]) (.seq (.seq (.reg 101 9 [.mk (.some 101) (.mv (.t 15)) .none 101 .none
  .false [] .false, .mk (.some 102) (.bin .neq (.t 101) (.k (.int .i64 0))) .none 102 .none .false [] .false, .mk (.some 103) (.mv (.t 102)) .none 103 .none .false [] .false, .mk
  (.some 104) (.mv (.t 14)) (.some (103, .false)) 104 .none .false [] .false, .mk (.some 105) (.len (.t 104)) (.some (103, .false)) 105 .none .false [] .false, .mk (.some 106) (.mv
  (.t 7)) (.some (103, .false)) 106 .none .false [] .false, .mk (.some 107) (.len (.t 106)) (.some (103, .false)) 107 .none .false [] .false, .mk (.some 108) (.bin .neq (.t 105) (.t
  107)) (.some (103, .false)) 108 .none .false [] .false, .mk (.some 109) (.pick (.t 103) (.k (.bool .true)) (.t 108)) .none 109 .none .false [] .false]) (.cond (.t 109) (.seq (.reg
  110 1 [.mk (.some 6) (.mv (.k (.bool .false))) .none 110 .none .false [] .false]) .ret) .skip)) (.seq (.seq (.reg 111 1 [.mk (.some 16) (.mv (.k (.int .i64 0))) .none 111 .none
  .false [] .false]) (.block 2 (.loop (.seq (.seq (.reg 112 4 [.mk (.some 110) (.mv (.t 16)) .none 112 .none .false [] .false, .mk (.some 111) (.mv (.t 7)) .none 113 .none .false []
  .false, .mk (.some 112) (.len (.t 111)) .none 114 .none .false [] .false, .mk (.some 113) (.bin .lss (.t 110) (.t 112)) .none 115 .none .false [] .false]) (.cond (.t 113) .skip
  (.exit 2))) (.seq (.block 3 (.seq (.seq (.draw 116 25 [] [] [.mk (.some 116) (.mv (.t 14)) .none 116 (.some []) .true [] .false, .mk (.some 117) (.mv (.t 16)) .none 117 (.some [])
  .true [] .false, .mk (.some 118) (.iaddr 1 (.t 116) (.t 117)) .none 118 (.some []) .true [] .false, .mk (.some 119) (.load 1 .false (.t 118)) .none 119 (.some []) .true [] .false,
  .mk (.some 120) (.mv (.t 9)) .none 120 (.some []) .true [] .false, .mk (.some 121) (.mv (.t 16)) .none 121 (.some []) .true [] .false, .mk (.some 122) (.iaddr 2 (.t 120) (.t 121))
  .none 122 (.some []) .true [] .false, .mk (.some 123) (.faddr 1 (.t 122)) .none 123 (.some []) .true [] .false, .mk (.some 124) (.load 1 .false (.t 123)) .none 124 (.some [])
  .true [] .false, .mk (.some 125) (.bin .lss (.t 119) (.t 124)) .none 125 (.some []) .true [] .false, .mk (.some 126) (.mv (.t 125)) .none 126 (.some []) .true [] .false, .mk
  (.some 127) (.mv (.t 14)) (.some (126, .false)) 127 (.some []) .true [] .false, .mk (.some 128) (.mv (.t 16)) (.some (126, .false)) 128 (.some []) .true [] .false, .mk (.some 129)
  (.iaddr 1 (.t 127) (.t 128)) (.some (126, .false)) 129 (.some []) .true [] .false, .mk (.some 130) (.load 1 .false (.t 129)) (.some (126, .false)) 130 (.some []) .true [] .false,
  .mk (.some 131) (.mv (.t 9)) (.some (126, .false)) 131 (.some []) .true [] .false, .mk (.some 132) (.mv (.t 16)) (.some (126, .false)) 132 (.some []) .true [] .false, .mk (.some
  133) (.iaddr 2 (.t 131) (.t 132)) (.some (126, .false)) 133 (.some []) .true [] .false, .mk (.some 134) (.faddr 1 (.t 133)) (.some (126, .false)) 134 (.some []) .true [] .false,
  .mk (.some 135) (.load 1 .false (.t 134)) (.some (126, .false)) 135 (.some []) .true [] .false, .mk (.some 136) (.faddr 1 (.t 4)) (.some (126, .false)) 136 (.some []) .true []
  .false, .mk (.some 137) (.load 1 .false (.t 136)) (.some (126, .false)) 137 (.some []) .true [] .false, .mk (.some 138) (.bin .add (.t 135) (.t 137)) (.some (126, .false)) 138
  (.some []) .true [] .false, .mk (.some 139) (.bin .gtr (.t 130) (.t 138)) (.some (126, .false)) 139 (.some []) .true [] .false, .mk (.some 140) (.pick (.t 126) (.k (.bool .true))
  (.t 139)) .none 140 (.some []) .true [] .false]) (.cond (.t 140) (.seq (.reg 141 1 [.mk (.some 6) (.mv (.k (.bool .false))) .none 141 .none .false [] .false]) .ret) .skip)) (.seq
  (.reg 142 3 [.mk (.some 141) (.mv (.t 16)) .none 142 .none .false [] .false, .mk (.some 142) (.bin .add (.t 141) (.k (.int .i64 1))) .none 143 .none .false [] .false, .mk (.some
  17) (.mv (.t 142)) .none 144 .none .false [] .false]) (.block 4 (.loop (.seq (.seq (.reg 145 4 [.mk (.some 143) (.mv (.t 17)) .none 145 .none .false [] .false, .mk (.some 144)
  (.mv (.t 7)) .none 146 .none .false [] .false, .mk (.some 145) (.len (.t 144)) .none 147 .none .false [] .false, .mk (.some 146) (.bin .lss (.t 143) (.t 145)) .none 148 .none
  .false [] .false]) (.cond (.t 146) .skip (.exit 4))) (.seq (.block 5 (.seq (.draw 149 31 [] [] [.mk (.some 149) (.mv (.t 7)) .none 149 (.some []) .true [] .false, .mk (.some 150)
  (.mv (.t 17)) .none 150 (.some []) .true [] .false, .mk (.some 151) (.iaddr 1 (.t 149) (.t 150)) .none 151 (.some []) .true [] .false, .mk (.some 152) (.load 1 .false (.t 151))
  .none 152 (.some []) .true [] .false, .mk (.some 153) (.mv (.t 7)) .none 153 (.some []) .true [] .false, .mk (.some 154) (.mv (.t 16)) .none 154 (.some []) .true [] .false, .mk
  (.some 155) (.iaddr 1 (.t 153) (.t 154)) .none 155 (.some []) .true [] .false, .mk (.some 156) (.load 1 .false (.t 155)) .none 156 (.some []) .true [] .false, .mk (.some 157)
  (.bin .eql (.t 152) (.t 156)) .none 157 (.some []) .true [] .false, .mk (.some 158) (.mv (.t 157)) .none 158 (.some []) .true [] .false, .mk (.some 159) (.mv (.t 14)) (.some (158,
  .true)) 159 (.some []) .true [] .false, .mk (.some 160) (.mv (.t 16)) (.some (158, .true)) 160 (.some []) .true [] .false, .mk (.some 161) (.iaddr 1 (.t 159) (.t 160)) (.some
  (158, .true)) 161 (.some []) .true [] .false, .mk (.some 162) (.load 1 .false (.t 161)) (.some (158, .true)) 162 (.some []) .true [] .false, .mk (.some 163) (.faddr 0 (.t 4))
  (.some (158, .true)) 163 (.some []) .true [] .false, .mk (.some 164) (.load 1 .false (.t 163)) (.some (158, .true)) 164 (.some []) .true [] .false, .mk (.some 165) (.mv (.t 7))
  (.some (158, .true)) 165 (.some []) .true [] .false, .mk (.some 166) (.mv (.t 16)) (.some (158, .true)) 166 (.some []) .true [] .false, .mk (.some 167) (.iaddr 1 (.t 165) (.t
  166)) (.some (158, .true)) 167 (.some []) .true [] .false, .mk (.some 168) (.load 1 .false (.t 167)) (.some (158, .true)) 168 (.some []) .true [] .false, .mk (.some 169) (.iaddr 3
  (.t 164) (.t 168)) (.some (158, .true)) 169 (.some []) .true [] .false, .mk (.some 170) (.faddr 2 (.t 169)) (.some (158, .true)) 170 (.some []) .true [] .false, .mk (.some 171)
  (.load 1 .false (.t 170)) (.some (158, .true)) 171 (.some []) .true [] .false, .mk (.some 172) (.bin .add (.t 162) (.t 171)) (.some (158, .true)) 172 (.some []) .true [] .false,
  .mk (.some 173) (.mv (.t 9)) (.some (158, .true)) 173 (.some []) .true [] .false, .mk (.some 174) (.mv (.t 17)) (.some (158, .true)) 174 (.some []) .true [] .false, .mk (.some
  175) (.iaddr 2 (.t 173) (.t 174)) (.some (158, .true)) 175 (.some []) .true [] .false, .mk (.some 176) (.faddr 0 (.t 175)) (.some (158, .true)) 176 (.some []) .true [] .false, .mk
  (.some 177) (.load 1 .false (.t 176)) (.some (158, .true)) 177 (.some []) .true [] .false, .mk (.some 178) (.bin .gtr (.t 172) (.t 177)) (.some (158, .true)) 178 (.some []) .true
  [] .false, .mk (.some 179) (.pick (.t 158) (.t 178) (.k (.bool .false))) .none 179 (.some []) .true [] .false]) (.cond (.t 179) (.seq (.reg 180 1 [.mk (.some 6) (.mv (.k (.bool
  .false))) .none 180 .none .false [] .false]) .ret) .skip))) (.reg 181 3 [.mk (.some 147) (.mv (.t 17)) .none 181 .none .false [] .false, .mk (.some 148) (.bin .add (.t 147) (.k
  (.int .i64 1))) .none 182 .none .false [] .false, .mk (.some 17) (.mv (.t 148)) .none 183 .none .false [] .false])))))))) (.reg 184 3 [.mk (.some 114) (.mv (.t 16)) .none 184
  .none .false [] .false, .mk (.some 115) (.bin .add (.t 114) (.k (.int .i64 1))) .none 185 .none .false [] .false, .mk (.some 16) (.mv (.t 115)) .none 186 .none .false []
  .false])))))) (.seq (.draw 187 11 [7, 4, 3] [] [.mk (.some 180) (.load 4 .true (.t 3)) .none 187 (.some []) .true [] .false, .mk (.some 181) (.call 13 [.t 180]) .none 188 (.some
  []) .true [] .false, .mk (.some 182) (.load 3 .true (.t 4)) .none 189 (.some []) .true [] .false, .mk (.some 183) (.call 18 [.t 182]) .none 190 (.some [188]) .false [] .false, .mk
  (.some 184) (.mv (.t 7)) .none 191 (.some []) .true [] .false, .mk (.some 185) (.call 21 [.t 184]) .none 192 (.some [188, 190]) .false [] .false, .mk (.some 186) (.call 20 [.t
  181, .t 183, .t 185]) .none 193 (.some [192, 190, 188]) .false [] .false, .mk (.some 187) (.mv (.t 186)) .none 194 (.some [188, 190, 192, 193]) .true [] .false, .mk (.some 188)
  (.call 11 []) (.some (187, .true)) 195 (.some [193, 192, 190, 188]) .false [] .false, .mk (.some 189) (.pick (.t 187) (.t 188) (.k (.bool .false))) .none 196 (.some [195, 193,
  192, 190, 188]) .true [] .false, .mk (.some 6) (.mv (.t 189)) .none 197 (.some [188, 190, 192, 193, 195]) .true [] .false]) .ret)))))))))))
def rs7 : List IRes := [.tmp 6]
set_option maxRecDepth 100000 in
theorem comp7 : Comp Try.prog 7 ir7 rs7 190 := ⟨⟨_, _, 198, Try.func7, rfl, by kernel_rfl, by kernel_rfl, rfl⟩⟩
theorem body7 : HasBody Try.prog 7 := hasBody_of (by kernel_rfl)

def ir8 : IC :=
  .seq (.reg 0 3 [.mk (.some 4) (.box 24 (.t 0)) .none 0 .none .false [] .false, .mk (.some 5) (.box 45 (.t 1)) .none 1 .none .false [] .false, .mk (.some 8) (.mv (.k (.bool .false)))
  .none 2 .none .false [] .false]) (.seq (.seq (.reg 3 4 [.mk (.some 21) (.load 4 .true (.t 4)) .none 3 .none .false [] .false, .mk (.some 22) (.load 3 .true (.t 5)) .none 4 .none
  .false [] .false, .mk (.some 23) (.call 16 [.t 21, .t 22]) .none 5 .none .false [] .false, .mk (.some 24) (.un .not (.t 23)) .none 6 .none .false [] .false]) (.cond (.t 24) (.seq
  (.reg 7 2 [.mk (.some 25) (.call 11 []) .none 7 .none .false [] .false, .mk (.some 8) (.mv (.t 25)) .none 8 .none .false [] .false]) .ret) .skip)) (.seq (.draw 9 10 [5, 4] [] [.mk
  (.some 27) (.load 4 .true (.t 4)) .none 9 (.some []) .true [] .false, .mk (.some 28) (.call 13 [.t 27]) .none 10 (.some []) .true [] .false, .mk (.some 29) (.load 3 .true (.t 5))
  .none 11 (.some []) .true [] .false, .mk (.some 30) (.call 18 [.t 29]) .none 12 (.some [10]) .false [] .false, .mk (.some 31) (.call 17 [.t 28, .t 30]) .none 13 (.some [12, 10])
  .false [] .false, .mk (.some 26) (.mv (.t 31)) .none 14 (.some [10, 12, 13]) .true [] .false, .mk (.some 32) (.ext (.t 26) 0) .none 15 (.some [13, 12, 10]) .true [] .false, .mk
  (.some 33) (.ext (.t 26) 1) .none 16 (.some [13, 12, 10]) .true [] .false, .mk (.some 9) (.mv (.t 32)) .none 17 (.some [10, 12, 13]) .true [] .false, .mk (.some 10) (.mv (.t 33))
  .none 18 (.some [10, 12, 13]) .true [] .false]) (.seq (.seq (.reg 19 2 [.mk (.some 34) (.mv (.t 10)) .none 19 .none .false [] .false, .mk (.some 35) (.bin .neq (.t 34) (.k (.int
  .i64 0))) .none 20 .none .false [] .false]) (.cond (.t 35) (.seq (.reg 21 6 [.mk (.some 36) (.mv (.t 10)) .none 21 .none .false [] .false, .mk (.some 37) (.bin .eql (.t 36) (.k
  (.int .i64 9))) .none 22 .none .false [] .false, .mk (.some 38) (.mv (.t 37)) .none 23 .none .false [] .false, .mk (.some 39) (.call 11 []) (.some (38, .true)) 24 .none .false []
  .false, .mk (.some 40) (.pick (.t 38) (.t 39) (.k (.bool .false))) .none 25 .none .false [] .false, .mk (.some 8) (.mv (.t 40)) .none 26 .none .false [] .false]) .ret) .skip))
  (.seq (.draw 27 14 [] [] [.mk (.some 41) (.mv (.t 2)) .none 27 (.some []) .true [] .false, .mk (.some 42) (.conv .i64 (.t 41)) .none 28 (.some []) .true [] .false, .mk (.some 43)
  (.faddr 0 (.t 5)) .none 29 (.some []) .true [] .false, .mk (.some 44) (.load 1 .false (.t 43)) .none 30 (.some []) .true [] .false, .mk (.some 45) (.len (.t 44)) .none 31 (.some
  []) .true [] .false, .mk (.some 46) (.bin .rem (.t 42) (.t 45)) .none 32 (.some []) .true [] .false, .mk (.some 47) (.mv (.t 3)) .none 33 (.some []) .true [] .false, .mk (.some
  48) (.conv .i64 (.t 47)) .none 34 (.some []) .true [] .false, .mk (.some 49) (.faddr 0 (.t 4)) .none 35 (.some []) .true [] .false, .mk (.some 50) (.load 1 .false (.t 49)) .none
  36 (.some []) .true [] .false, .mk (.some 51) (.bin .add (.t 50) (.k (.int .i64 1))) .none 37 (.some []) .true [] .false, .mk (.some 52) (.bin .rem (.t 48) (.t 51)) .none 38
  (.some []) .true [] .false, .mk (.some 11) (.mv (.t 46)) .none 39 (.some []) .true [] .false, .mk (.some 12) (.mv (.t 52)) .none 40 (.some []) .true [] .false]) (.seq (.draw 41 16
  [12, 11, 9, 5, 4] [] [.mk (.some 54) (.load 4 .true (.t 4)) .none 41 (.some []) .true [] .false, .mk (.some 55) (.call 13 [.t 54]) .none 42 (.some []) .true [] .false, .mk (.some
  56) (.load 3 .true (.t 5)) .none 43 (.some []) .true [] .false, .mk (.some 57) (.call 18 [.t 56]) .none 44 (.some [42]) .false [] .false, .mk (.some 58) (.mv (.t 9)) .none 45
  (.some []) .true [] .false, .mk (.some 59) (.call 21 [.t 58]) .none 46 (.some [42, 44]) .false [] .false, .mk (.some 60) (.mv (.t 11)) .none 47 (.some []) .true [] .false, .mk
  (.some 61) (.mv (.t 12)) .none 48 (.some []) .true [] .false, .mk (.some 62) (.call 27 [.t 55, .t 57, .t 59, .t 60, .t 61]) .none 49 (.some [46, 44, 42]) .false [] .false, .mk
  (.some 53) (.mv (.t 62)) .none 50 (.some [42, 44, 46, 49]) .true [] .false, .mk (.some 63) (.ext (.t 53) 0) .none 51 (.some [49, 46, 44, 42]) .true [] .false, .mk (.some 64) (.ext
  (.t 53) 1) .none 52 (.some [49, 46, 44, 42]) .true [] .false, .mk (.some 65) (.ext (.t 53) 2) .none 53 (.some [49, 46, 44, 42]) .true [] .false, .mk (.some 13) (.mv (.t 63)) .none
  54 (.some [42, 44, 46, 49]) .true [] .false, .mk (.some 14) (.mv (.t 64)) .none 55 (.some [42, 44, 46, 49]) .true [] .false, .mk (.some 15) (.mv (.t 65)) .none 56 (.some [42, 44,
  46, 49]) .true [] .false]) (.seq (.seq (.reg 57 2 [.mk (.some 66) (.mv (.t 15)) .none 57 .none .false [] .false, .mk (.some 67) (.bin .neq (.t 66) (.k (.int .i64 0))) .none 58
  .none .false [] .false]) (.cond (.t 67) (.seq (.reg 59 6 [.mk (.some 68) (.mv (.t 15)) .none 59 .none .false [] .false, .mk (.some 69) (.bin .eql (.t 68) (.k (.int .i64 7))) .none
  60 .none .false [] .false, .mk (.some 70) (.mv (.t 69)) .none 61 .none .false [] .false, .mk (.some 71) (.call 11 []) (.some (70, .true)) 62 .none .false [] .false, .mk (.some 72)
  (.pick (.t 70) (.t 71) (.k (.bool .false))) .none 63 .none .false [] .false, .mk (.some 8) (.mv (.t 72)) .none 64 .none .false [] .false]) .ret) .skip)) (.seq (.reg 65 8 [.mk
  (.some 74) (.load 4 .true (.t 4)) .none 65 .none .false [] .false, .mk (.some 75) (.call 13 [.t 74]) .none 66 .none .false [] .false, .mk (.some 76) (.call 12 [.t 75]) .none 67
  .none .false [] .false, .mk (.some 73) (.mv (.t 76)) .none 68 .none .false [] .false, .mk (.some 77) (.ext (.t 73) 0) .none 69 .none .false [] .false, .mk (.some 78) (.ext (.t 73)
  1) .none 70 .none .false [] .false, .mk (.some 16) (.mv (.t 77)) .none 71 .none .false [] .false, .mk (.some 17) (.mv (.t 78)) .none 72 .none .false [] .false]) (.seq (.seq (.draw
  73 26 [13, 5, 4] [] [.mk (.some 79) (.mv (.t 17)) .none 73 (.some []) .true [] .false, .mk (.some 80) (.bin .neq (.t 79) (.k (.int .i64 0))) .none 74 (.some []) .true [] .false,
  .mk (.some 81) (.mv (.t 80)) .none 75 (.some []) .true [] .false, .mk (.some 82) (.mv (.t 16)) (.some (81, .false)) 76 (.some []) .true [] .false, .mk (.some 83) (.len (.t 82))
  (.some (81, .false)) 77 (.some []) .true [] .false, .mk (.some 84) (.mv (.t 9)) (.some (81, .false)) 78 (.some []) .true [] .false, .mk (.some 85) (.len (.t 84)) (.some (81,
  .false)) 79 (.some []) .true [] .false, .mk (.some 86) (.bin .neq (.t 83) (.t 85)) (.some (81, .false)) 80 (.some []) .true [] .false, .mk (.some 87) (.pick (.t 81) (.k (.bool
  .true)) (.t 86)) .none 81 (.some []) .true [] .false, .mk (.some 88) (.mv (.t 87)) .none 82 (.some []) .true [] .false, .mk (.some 89) (.mv (.t 13)) (.some (88, .false)) 83 (.some
  []) .true [] .false, .mk (.some 90) (.len (.t 89)) (.some (88, .false)) 84 (.some []) .true [] .false, .mk (.some 91) (.mv (.t 9)) (.some (88, .false)) 85 (.some []) .true []
  .false, .mk (.some 92) (.len (.t 91)) (.some (88, .false)) 86 (.some []) .true [] .false, .mk (.some 93) (.bin .neq (.t 90) (.t 92)) (.some (88, .false)) 87 (.some []) .true []
  .false, .mk (.some 94) (.pick (.t 88) (.k (.bool .true)) (.t 93)) .none 88 (.some []) .true [] .false, .mk (.some 95) (.mv (.t 94)) .none 89 (.some []) .true [] .false, .mk (.some
  96) (.load 4 .true (.t 4)) (.some (95, .false)) 90 (.some []) .true [] .false, .mk (.some 97) (.call 13 [.t 96]) (.some (95, .false)) 91 (.some []) .true [] .false, .mk (.some 98)
  (.load 3 .true (.t 5)) (.some (95, .false)) 92 (.some []) .true [] .false, .mk (.some 99) (.call 18 [.t 98]) (.some (95, .false)) 93 (.some [91]) .false [] .false, .mk (.some 100)
  (.mv (.t 13)) (.some (95, .false)) 94 (.some []) .true [] .false, .mk (.some 101) (.call 21 [.t 100]) (.some (95, .false)) 95 (.some [91, 93]) .false [] .false, .mk (.some 102)
  (.call 20 [.t 97, .t 99, .t 101]) (.some (95, .false)) 96 (.some [95, 93, 91]) .false [] .false, .mk (.some 103) (.un .not (.t 102)) (.some (95, .false)) 97 (.some [91, 93, 95,
  96]) .true [] .false, .mk (.some 104) (.pick (.t 95) (.k (.bool .true)) (.t 103)) .none 98 (.some [96, 95, 93, 91]) .true [] .false]) (.cond (.t 104) (.seq (.reg 99 1 [.mk (.some
  8) (.mv (.k (.bool .false))) .none 99 .none .false [] .false]) .ret) .skip)) (.seq (.reg 100 3 [.mk (.some 105) (.mv (.t 14)) .none 100 .none .false [] .false, .mk (.some 106)
  (.call 21 [.t 105]) .none 101 .none .false [] .false, .mk (.some 18) (.mv (.t 106)) .none 102 .none .false [] .false]) (.seq (.seq (.reg 103 1 [.mk (.some 19) (.mv (.k (.int .i64
  0))) .none 103 .none .false [] .false]) (.block 0 (.loop (.seq (.seq (.reg 104 4 [.mk (.some 107) (.mv (.t 19)) .none 104 .none .false [] .false, .mk (.some 108) (.mv (.t 16))
  .none 105 .none .false [] .false, .mk (.some 109) (.len (.t 108)) .none 106 .none .false [] .false, .mk (.some 110) (.bin .lss (.t 107) (.t 109)) .none 107 .none .false []
  .false]) (.cond (.t 110) .skip (.exit 0))) (.seq (.block 1 (.seq (.seq (.reg 108 7 [.mk (.some 113) (.mv (.t 16)) .none 108 .none .false [] .false, .mk (.some 114) (.mv (.t 19))
  .none 109 .none .false [] .false, .mk (.some 115) (.iaddr 2 (.t 113) (.t 114)) .none 110 .none .false [] .false, .mk (.some 116) (.faddr 0 (.t 115)) .none 111 .none .false []
  .false, .mk (.some 117) (.load 1 .false (.t 116)) .none 112 .none .false [] .false, .mk (.some 118) (.mv (.t 12)) .none 113 .none .false [] .false, .mk (.some 119) (.bin .geq (.t
  117) (.t 118)) .none 114 .none .false [] .false]) (.cond (.t 119) (.seq (.seq (.reg 115 6 [.mk (.some 120) (.mv (.t 13)) .none 115 .none .false [] .false, .mk (.some 121) (.mv (.t
  19)) .none 116 .none .false [] .false, .mk (.some 122) (.iaddr 1 (.t 120) (.t 121)) .none 117 .none .false [] .false, .mk (.some 123) (.load 1 .false (.t 122)) .none 118 .none
  .false [] .false, .mk (.some 124) (.mv (.t 11)) .none 119 .none .false [] .false, .mk (.some 125) (.bin .eql (.t 123) (.t 124)) .none 120 .none .false [] .false]) (.cond (.t 125)
  (.seq (.reg 121 1 [.mk (.some 8) (.mv (.k (.bool .false))) .none 121 .none .false [] .false]) .ret) .skip)) (.exit 1)) .skip)) (.seq (.draw 122 39 [] [] [.mk (.some 126) (.mv (.t
  9)) .none 122 (.some []) .true [] .false, .mk (.some 127) (.mv (.t 19)) .none 123 (.some []) .true [] .false, .mk (.some 128) (.iaddr 1 (.t 126) (.t 127)) .none 124 (.some [])
  .true [] .false, .mk (.some 129) (.load 1 .false (.t 128)) .none 125 (.some []) .true [] .false, .mk (.some 130) (.mv (.t 11)) .none 126 (.some []) .true [] .false, .mk (.some
  131) (.bin .eql (.t 129) (.t 130)) .none 127 (.some []) .true [] .false, .mk (.some 132) (.mv (.t 131)) .none 128 (.some []) .true [] .false, .mk (.some 133) (.mv (.t 16)) (.some
  (132, .true)) 129 (.some []) .true [] .false, .mk (.some 134) (.mv (.t 19)) (.some (132, .true)) 130 (.some []) .true [] .false, .mk (.some 135) (.iaddr 2 (.t 133) (.t 134))
  (.some (132, .true)) 131 (.some []) .true [] .false, .mk (.some 136) (.faddr 1 (.t 135)) (.some (132, .true)) 132 (.some []) .true [] .false, .mk (.some 137) (.load 1 .false (.t
  136)) (.some (132, .true)) 133 (.some []) .true [] .false, .mk (.some 138) (.mv (.t 16)) (.some (132, .true)) 134 (.some []) .true [] .false, .mk (.some 139) (.mv (.t 19)) (.some
  (132, .true)) 135 (.some []) .true [] .false, .mk (.some 140) (.iaddr 2 (.t 138) (.t 139)) (.some (132, .true)) 136 (.some []) .true [] .false, .mk (.some 141) (.faddr 1 (.t 140))
  (.some (132, .true)) 137 (.some []) .true [] .false, .mk (.some 142) (.load 1 .false (.t 141)) (.some (132, .true)) 138 (.some []) .true [] .false, .mk (.some 143) (.mv (.t 16))
  (.some (132, .true)) 139 (.some []) .true [] .false, .mk (.some 144) (.mv (.t 19)) (.some (132, .true)) 140 (.some []) .true [] .false, .mk (.some 145) (.iaddr 2 (.t 143) (.t
  144)) (.some (132, .true)) 141 (.some []) .true [] .false, .mk (.some 146) (.faddr 0 (.t 145)) (.some (132, .true)) 142 (.some []) .true [] .false, .mk (.some 147) (.load 1 .false
  (.t 146)) (.some (132, .true)) 143 (.some []) .true [] .false, .mk (.some 148) (.bin .sub (.t 142) (.t 147)) (.some (132, .true)) 144 (.some []) .true [] .false, .mk (.some 149)
  (.faddr 0 (.t 5)) (.some (132, .true)) 145 (.some []) .true [] .false, .mk (.some 150) (.load 1 .false (.t 149)) (.some (132, .true)) 146 (.some []) .true [] .false, .mk (.some
  151) (.mv (.t 11)) (.some (132, .true)) 147 (.some []) .true [] .false, .mk (.some 152) (.iaddr 3 (.t 150) (.t 151)) (.some (132, .true)) 148 (.some []) .true [] .false, .mk
  (.some 153) (.faddr 0 (.t 152)) (.some (132, .true)) 149 (.some []) .true [] .false, .mk (.some 154) (.faddr 1 (.t 153)) (.some (132, .true)) 150 (.some []) .true [] .false, .mk
  (.some 155) (.load 1 .false (.t 154)) (.some (132, .true)) 151 (.some []) .true [] .false, .mk (.some 156) (.bin .mul (.t 148) (.t 155)) (.some (132, .true)) 152 (.some []) .true
  [] .false, .mk (.some 157) (.bin .add (.t 137) (.t 156)) (.some (132, .true)) 153 (.some []) .true [] .false, .mk (.some 158) (.faddr 2 (.t 5)) (.some (132, .true)) 154 (.some [])
  .true [] .false, .mk (.some 159) (.load 1 .false (.t 158)) (.some (132, .true)) 155 (.some []) .true [] .false, .mk (.some 160) (.bin .add (.t 157) (.t 159)) (.some (132, .true))
  156 (.some []) .true [] .false, .mk (.some 161) (.mv (.t 12)) (.some (132, .true)) 157 (.some []) .true [] .false, .mk (.some 162) (.bin .gtr (.t 160) (.t 161)) (.some (132,
  .true)) 158 (.some []) .true [] .false, .mk (.some 163) (.pick (.t 132) (.t 162) (.k (.bool .false))) .none 159 (.some []) .true [] .false, .mk (.some 20) (.mv (.t 163)) .none 160
  (.some []) .true [] .false]) (.seq (.seq (.draw 161 24 [] [] [.mk (.some 164) (.mv (.t 13)) .none 161 (.some []) .true [] .false, .mk (.some 165) (.mv (.t 19)) .none 162 (.some
  []) .true [] .false, .mk (.some 166) (.iaddr 1 (.t 164) (.t 165)) .none 163 (.some []) .true [] .false, .mk (.some 167) (.load 1 .false (.t 166)) .none 164 (.some []) .true []
  .false, .mk (.some 168) (.mv (.t 9)) .none 165 (.some []) .true [] .false, .mk (.some 169) (.mv (.t 19)) .none 166 (.some []) .true [] .false, .mk (.some 170) (.iaddr 1 (.t 168)
  (.t 169)) .none 167 (.some []) .true [] .false, .mk (.some 171) (.load 1 .false (.t 170)) .none 168 (.some []) .true [] .false, .mk (.some 172) (.bin .neq (.t 167) (.t 171)) .none
  169 (.some []) .true [] .false, .mk (.some 173) (.mv (.t 172)) .none 170 (.some []) .true [] .false, .mk (.some 174) (.mv (.t 20)) (.some (173, .false)) 171 (.some []) .true []
  .false, .mk (.some 175) (.mv (.t 174)) (.some (173, .false)) 172 (.some []) .true [] .false, .mk (.some 176) (.mv (.t 18)) (.some (175, .true)) 173 (.some []) .true [] .false, .mk
  (.some 177) (.len (.t 176)) (.some (175, .true)) 174 (.some []) .true [] .false, .mk (.some 178) (.bin .eql (.t 177) (.k (.int .i64 0))) (.some (175, .true)) 175 (.some []) .true
  [] .false, .mk (.some 179) (.mv (.t 178)) (.some (175, .true)) 176 (.some []) .true [] .false, .mk (.some 180) (.mv (.t 18)) (.some (179, .false)) 177 (.some []) .true [] .false,
  .mk (.some 181) (.iaddr 1 (.t 180) (.k (.int .i64 0))) (.some (179, .false)) 178 (.some []) .true [] .false, .mk (.some 182) (.load 1 .false (.t 181)) (.some (179, .false)) 179
  (.some []) .true [] .false, .mk (.some 183) (.mv (.t 19)) (.some (179, .false)) 180 (.some []) .true [] .false, .mk (.some 184) (.bin .neq (.t 182) (.t 183)) (.some (179, .false))
  181 (.some []) .true [] .false, .mk (.some 185) (.pick (.t 179) (.k (.bool .true)) (.t 184)) (.some (175, .true)) 182 (.some []) .true [] .false, .mk (.some 186) (.pick (.t 175)
  (.t 185) (.k (.bool .false))) (.some (173, .false)) 183 (.some []) .true [] .false, .mk (.some 187) (.pick (.t 173) (.k (.bool .true)) (.t 186)) .none 184 (.some []) .true []
  .false]) (.cond (.t 187) (.seq (.reg 185 1 [.mk (.some 8) (.mv (.k (.bool .false))) .none 185 .none .false [] .false]) .ret) .skip)) (.seq (.reg 186 1 [.mk (.some 188) (.mv (.t
  20)) .none 186 .none .false [] .false]) (.cond (.t 188) (.reg 187 3 [.mk (.some 189) (.mv (.t 18)) .none 187 .none .false [] .false, .mk (.some 190) (.slc 1 (.t 189) (.some (.k
  (.int .i64 1))) .none .none) .none 188 .none .false [] .false, .mk (.some 18) (.mv (.t 190)) .none 189 .none .false [] .false]) .skip)))))) (.reg 190 3 [.mk (.some 111) (.mv (.t
  19)) .none 190 .none .false [] .false, .mk (.some 112) (.bin .add (.t 111) (.k (.int .i64 1))) .none 191 .none .false [] .false, .mk (.some 19) (.mv (.t 112)) .none 192 .none
  .false [] .false])))))) (.seq (.reg 193 7 [.mk (.some 191) (.mv (.t 18)) .none 193 .none .false [] .false, .mk (.some 192) (.len (.t 191)) .none 194 .none .false [] .false, .mk
  (.some 193) (.bin .eql (.t 192) (.k (.int .i64 0))) .none 195 .none .false [] .false, .mk (.some 194) (.mv (.t 193)) .none 196 .none .false [] .false, .mk (.some 195) (.call 11
  []) (.some (194, .true)) 197 .none .false [] .false, .mk (.some 196) (.pick (.t 194) (.t 195) (.k (.bool .false))) .none 198 .none .false [] .false, .mk (.some 8) (.mv (.t 196))
  .none 199 .none .false [] .false]) .ret)))))))))))
def rs8 : List IRes := [.tmp 8]
set_option maxRecDepth 100000 in
theorem comp8 : Comp Try.prog 8 ir8 rs8 197 := ⟨⟨_, _, 200, Try.func8, rfl, by kernel_rfl, by kernel_rfl, rfl⟩⟩
theorem body8 : HasBody Try.prog 8 := hasBody_of (by kernel_rfl)

def ir9 : IC :=
  .seq (.reg 0 1 [.mk (.some 0) (.mv (.k (.bool .false))) .none 0 .none .false [] .false]) (.seq (.reg 1 8 [.mk (.some 44) (.call 28 []) .none 1 .none .false [] .false, .mk (.some 43)
  (.mv (.t 44)) .none 2 .none .false [] .false, .mk (.some 45) (.ext (.t 43) 0) .none 3 .none .false [] .false, .mk (.some 46) (.ext (.t 43) 1) .none 4 .none .false [] .false, .mk
  (.some 1) (.alloc 32 [.int .i64 0, .slice .none 0 0, .int .i64 0, .int .i64 0]) .none 5 .none .false [] .false, .mk (.some 2) (.alloc 52 [.slice .none 0 0, .int .i64 0, .int .i64
  0]) .none 6 .none .false [] .false, .mk .none (.store 4 (.t 1) (.t 45)) .none 7 .none .false [] .false, .mk .none (.store 3 (.t 2) (.t 46)) .none 8 .none .false [] .false]) (.seq
  (.reg 9 7 [.mk (.some 48) (.load 4 .true (.t 1)) .none 9 .none .false [] .false, .mk (.some 49) (.call 15 [.t 48, .k (.int .i64 399)]) .none 10 .none .false [] .false, .mk (.some
  47) (.mv (.t 49)) .none 11 .none .false [] .false, .mk (.some 50) (.ext (.t 47) 0) .none 12 .none .false [] .false, .mk (.some 51) (.ext (.t 47) 1) .none 13 .none .false []
  .false, .mk (.some 3) (.mv (.t 50)) .none 14 .none .false [] .false, .mk (.some 4) (.mv (.t 51)) .none 15 .none .false [] .false]) (.seq (.reg 16 7 [.mk (.some 53) (.load 4 .true
  (.t 1)) .none 16 .none .false [] .false, .mk (.some 54) (.call 15 [.t 53, .k (.int .i64 400)]) .none 17 .none .false [] .false, .mk (.some 52) (.mv (.t 54)) .none 18 .none .false
  [] .false, .mk (.some 55) (.ext (.t 52) 0) .none 19 .none .false [] .false, .mk (.some 56) (.ext (.t 52) 1) .none 20 .none .false [] .false, .mk (.some 5) (.mv (.t 55)) .none 21
  .none .false [] .false, .mk (.some 6) (.mv (.t 56)) .none 22 .none .false [] .false]) (.seq (.reg 23 7 [.mk (.some 58) (.load 4 .true (.t 1)) .none 23 .none .false [] .false, .mk
  (.some 59) (.call 15 [.t 58, .k (.int .i64 500)]) .none 24 .none .false [] .false, .mk (.some 57) (.mv (.t 59)) .none 25 .none .false [] .false, .mk (.some 60) (.ext (.t 57) 0)
  .none 26 .none .false [] .false, .mk (.some 61) (.ext (.t 57) 1) .none 27 .none .false [] .false, .mk (.some 7) (.mv (.t 60)) .none 28 .none .false [] .false, .mk (.some 8) (.mv
  (.t 61)) .none 29 .none .false [] .false]) (.seq (.reg 30 7 [.mk (.some 62) (.bld [(0, 1), (1, 1)] [.int .i64 0, .int .i64 0] [(0, .k (.int .i64 1)), (1, .k (.int .i64 10))])
  .none 30 .none .false [] .false, .mk (.some 63) (.bld [(0, 1), (1, 1)] [.int .i64 0, .int .i64 0] [(0, .k (.int .i64 1)), (1, .k (.int .i64 10))]) .none 31 .none .false [] .false,
  .mk (.some 64) (.bld [(0, 1), (1, 1)] [.int .i64 0, .int .i64 0] [(0, .k (.int .i64 1)), (1, .k (.int .i64 10))]) .none 32 .none .false [] .false, .mk (.some 65) (.bld [(0, 1),
  (1, 1)] [.int .i64 0, .int .i64 0] [(0, .k (.int .i64 1)), (1, .k (.int .i64 10))]) .none 33 .none .false [] .false, .mk (.some 66) (.bld [(0, 1), (1, 1)] [.int .i64 0, .int .i64
  0] [(0, .k (.int .i64 1)), (1, .k (.int .i64 10))]) .none 34 .none .false [] .false, .mk (.some 67) (.bsl 71 2 5 [.int .i64 0, .int .i64 0, .int .i64 0, .int .i64 0, .int .i64 0,
  .int .i64 0, .int .i64 0, .int .i64 0, .int .i64 0, .int .i64 0] [(0, .t 62), (1, .t 63), (2, .t 64), (3, .t 65), (4, .t 66)]) .none 35 .none .false [] .false, .mk (.some 9) (.mv
  (.t 67)) .none 36 .none .false [] .false]) (.seq (.reg 37 10 [.mk (.some 69) (.load 4 .true (.t 1)) .none 37 .none .false [] .false, .mk (.some 70) (.load 3 .true (.t 2)) .none 38
  .none .false [] .false, .mk (.some 71) (.bsl 3 1 5 [.int .i64 0, .int .i64 0, .int .i64 0, .int .i64 0, .int .i64 0] [(0, .k (.int .i64 1)), (1, .k (.int .i64 0)), (2, .k (.int
  .i64 2)), (3, .k (.int .i64 1)), (4, .k (.int .i64 0))]) .none 39 .none .false [] .false, .mk (.some 72) (.mv (.t 9)) .none 40 .none .false [] .false, .mk (.some 73) (.call 26 [.t
  69, .t 70, .t 71, .t 72]) .none 41 .none .false [] .false, .mk (.some 68) (.mv (.t 73)) .none 42 .none .false [] .false, .mk (.some 74) (.ext (.t 68) 0) .none 43 .none .false []
  .false, .mk (.some 75) (.ext (.t 68) 1) .none 44 .none .false [] .false, .mk (.some 10) (.mv (.t 74)) .none 45 .none .false [] .false, .mk (.some 11) (.mv (.t 75)) .none 46 .none
  .false [] .false]) (.seq (.reg 47 11 [.mk (.some 77) (.load 4 .true (.t 1)) .none 47 .none .false [] .false, .mk (.some 78) (.load 3 .true (.t 2)) .none 48 .none .false [] .false,
  .mk (.some 79) (.bsl 3 1 5 [.int .i64 0, .int .i64 0, .int .i64 0, .int .i64 0, .int .i64 0] [(0, .k (.int .i64 1)), (1, .k (.int .i64 0)), (2, .k (.int .i64 2)), (3, .k (.int
  .i64 1)), (4, .k (.int .i64 0))]) .none 49 .none .false [] .false, .mk (.some 80) (.call 27 [.t 77, .t 78, .t 79, .k (.int .i64 2), .k (.int .i64 600)]) .none 50 .none .false []
  .false, .mk (.some 76) (.mv (.t 80)) .none 51 .none .false [] .false, .mk (.some 81) (.ext (.t 76) 0) .none 52 .none .false [] .false, .mk (.some 82) (.ext (.t 76) 1) .none 53
  .none .false [] .false, .mk (.some 83) (.ext (.t 76) 2) .none 54 .none .false [] .false, .mk (.some 12) (.mv (.t 81)) .none 55 .none .false [] .false, .mk (.some 13) (.mv (.t 82))
  .none 56 .none .false [] .false, .mk (.some 14) (.mv (.t 83)) .none 57 .none .false [] .false]) (.seq (.reg 58 11 [.mk (.some 85) (.load 4 .true (.t 1)) .none 58 .none .false []
  .false, .mk (.some 86) (.load 3 .true (.t 2)) .none 59 .none .false [] .false, .mk (.some 87) (.bsl 3 1 5 [.int .i64 0, .int .i64 0, .int .i64 0, .int .i64 0, .int .i64 0] [(0, .k
  (.int .i64 1)), (1, .k (.int .i64 0)), (2, .k (.int .i64 2)), (3, .k (.int .i64 1)), (4, .k (.int .i64 0))]) .none 60 .none .false [] .false, .mk (.some 88) (.call 27 [.t 85, .t
  86, .t 87, .k (.int .i64 1), .k (.int .i64 600)]) .none 61 .none .false [] .false, .mk (.some 84) (.mv (.t 88)) .none 62 .none .false [] .false, .mk (.some 89) (.ext (.t 84) 0)
  .none 63 .none .false [] .false, .mk (.some 90) (.ext (.t 84) 1) .none 64 .none .false [] .false, .mk (.some 91) (.ext (.t 84) 2) .none 65 .none .false [] .false, .mk (.some 15)
  (.mv (.t 89)) .none 66 .none .false [] .false, .mk (.some 16) (.mv (.t 90)) .none 67 .none .false [] .false, .mk (.some 17) (.mv (.t 91)) .none 68 .none .false [] .false]) (.seq
  (.seq (.reg 69 48 [.mk (.some 92) (.mv (.t 4)) .none 69 .none .false [] .false, .mk (.some 93) (.bin .neq (.t 92) (.k (.int .i64 0))) .none 70 .none .false [] .false, .mk (.some
  94) (.mv (.t 93)) .none 71 .none .false [] .false, .mk (.some 95) (.mv (.t 3)) (.some (94, .false)) 72 .none .false [] .false, .mk (.some 96) (.bin .neq (.t 95) (.k (.int .i64
  1))) (.some (94, .false)) 73 .none .false [] .false, .mk (.some 97) (.pick (.t 94) (.k (.bool .true)) (.t 96)) .none 74 .none .false [] .false, .mk (.some 98) (.mv (.t 97)) .none
  75 .none .false [] .false, .mk (.some 99) (.mv (.t 6)) (.some (98, .false)) 76 .none .false [] .false, .mk (.some 100) (.bin .neq (.t 99) (.k (.int .i64 7))) (.some (98, .false))
  77 .none .false [] .false, .mk (.some 101) (.pick (.t 98) (.k (.bool .true)) (.t 100)) .none 78 .none .false [] .false, .mk (.some 102) (.mv (.t 101)) .none 79 .none .false []
  .false, .mk (.some 103) (.mv (.t 8)) (.some (102, .false)) 80 .none .false [] .false, .mk (.some 104) (.bin .neq (.t 103) (.k (.int .i64 0))) (.some (102, .false)) 81 .none .false
  [] .false, .mk (.some 105) (.pick (.t 102) (.k (.bool .true)) (.t 104)) .none 82 .none .false [] .false, .mk (.some 106) (.mv (.t 105)) .none 83 .none .false [] .false, .mk (.some
  107) (.mv (.t 7)) (.some (106, .false)) 84 .none .false [] .false, .mk (.some 108) (.bin .neq (.t 107) (.k (.int .i64 2))) (.some (106, .false)) 85 .none .false [] .false, .mk
  (.some 109) (.pick (.t 106) (.k (.bool .true)) (.t 108)) .none 86 .none .false [] .false, .mk (.some 110) (.mv (.t 109)) .none 87 .none .false [] .false, .mk (.some 111) (.mv (.t
  11)) (.some (110, .false)) 88 .none .false [] .false, .mk (.some 112) (.bin .neq (.t 111) (.k (.int .i64 0))) (.some (110, .false)) 89 .none .false [] .false, .mk (.some 113)
  (.pick (.t 110) (.k (.bool .true)) (.t 112)) .none 90 .none .false [] .false, .mk (.some 114) (.mv (.t 113)) .none 91 .none .false [] .false, .mk (.some 115) (.mv (.t 10)) (.some
  (114, .false)) 92 .none .false [] .false, .mk (.some 116) (.bsl 3 1 5 [.int .i64 0, .int .i64 0, .int .i64 0, .int .i64 0, .int .i64 0] [(0, .k (.int .i64 370)), (1, .k (.int .i64
  630)), (2, .k (.int .i64 870)), (3, .k (.int .i64 1050)), (4, .k (.int .i64 1150))]) (.some (114, .false)) 93 .none .false [] .false, .mk (.some 117) (.call 29 [.t 115, .t 116])
  (.some (114, .false)) 94 .none .false [] .false, .mk (.some 118) (.un .not (.t 117)) (.some (114, .false)) 95 .none .false [] .false, .mk (.some 119) (.pick (.t 114) (.k (.bool
  .true)) (.t 118)) .none 96 .none .false [] .false, .mk (.some 120) (.mv (.t 119)) .none 97 .none .false [] .false, .mk (.some 121) (.mv (.t 14)) (.some (120, .false)) 98 .none
  .false [] .false, .mk (.some 122) (.bin .neq (.t 121) (.k (.int .i64 0))) (.some (120, .false)) 99 .none .false [] .false, .mk (.some 123) (.pick (.t 120) (.k (.bool .true)) (.t
  122)) .none 100 .none .false [] .false, .mk (.some 124) (.mv (.t 123)) .none 101 .none .false [] .false, .mk (.some 125) (.mv (.t 12)) (.some (124, .false)) 102 .none .false []
  .false, .mk (.some 126) (.bsl 3 1 5 [.int .i64 0, .int .i64 0, .int .i64 0, .int .i64 0, .int .i64 0] [(0, .k (.int .i64 1)), (1, .k (.int .i64 0)), (2, .k (.int .i64 2)), (3, .k
  (.int .i64 1)), (4, .k (.int .i64 0))]) (.some (124, .false)) 103 .none .false [] .false, .mk (.some 127) (.call 29 [.t 125, .t 126]) (.some (124, .false)) 104 .none .false []
  .false, .mk (.some 128) (.un .not (.t 127)) (.some (124, .false)) 105 .none .false [] .false, .mk (.some 129) (.pick (.t 124) (.k (.bool .true)) (.t 128)) .none 106 .none .false
  [] .false, .mk (.some 130) (.mv (.t 129)) .none 107 .none .false [] .false, .mk (.some 131) (.mv (.t 13)) (.some (130, .false)) 108 .none .false [] .false, .mk (.some 132) (.bsl 3
  1 1 [.int .i64 0] [(0, .k (.int .i64 2))]) (.some (130, .false)) 109 .none .false [] .false, .mk (.some 133) (.call 29 [.t 131, .t 132]) (.some (130, .false)) 110 .none .false []
  .false, .mk (.some 134) (.un .not (.t 133)) (.some (130, .false)) 111 .none .false [] .false, .mk (.some 135) (.pick (.t 130) (.k (.bool .true)) (.t 134)) .none 112 .none .false
  [] .false, .mk (.some 136) (.mv (.t 135)) .none 113 .none .false [] .false, .mk (.some 137) (.mv (.t 17)) (.some (136, .false)) 114 .none .false [] .false, .mk (.some 138) (.bin
  .neq (.t 137) (.k (.int .i64 7))) (.some (136, .false)) 115 .none .false [] .false, .mk (.some 139) (.pick (.t 136) (.k (.bool .true)) (.t 138)) .none 116 .none .false [] .false])
  (.cond (.t 139) (.seq (.reg 117 1 [.mk (.some 0) (.mv (.k (.bool .false))) .none 117 .none .false [] .false]) .ret) .skip)) (.seq (.reg 118 8 [.mk (.some 141) (.load 4 .true (.t
  1)) .none 118 .none .false [] .false, .mk (.some 142) (.load 3 .true (.t 2)) .none 119 .none .false [] .false, .mk (.some 143) (.call 19 [.t 141, .t 142]) .none 120 .none .false
  [] .false, .mk (.some 140) (.mv (.t 143)) .none 121 .none .false [] .false, .mk (.some 144) (.ext (.t 140) 0) .none 122 .none .false [] .false, .mk (.some 145) (.ext (.t 140) 1)
  .none 123 .none .false [] .false, .mk (.some 18) (.mv (.t 144)) .none 124 .none .false [] .false, .mk (.some 19) (.mv (.t 145)) .none 125 .none .false [] .false]) (.seq (.reg 126
  3 [.mk (.some 146) (.load 3 .true (.t 2)) .none 126 .none .false [] .false, .mk (.some 20) (.alloc 52 [.slice .none 0 0, .int .i64 0, .int .i64 0]) .none 127 .none .false []
  .false, .mk .none (.store 3 (.t 20) (.t 146)) .none 128 .none .false [] .false]) (.seq (.reg 129 5 [.mk (.some 147) (.faddr 0 (.t 20)) .none 129 .none .false [] .false, .mk (.some
  148) (.load 1 .false (.t 147)) .none 130 .none .false [] .false, .mk (.some 149) (.slc 3 (.t 148) .none (.some (.k (.int .i64 2))) .none) .none 131 .none .false [] .false, .mk
  (.some 150) (.faddr 0 (.t 20)) .none 132 .none .false [] .false, .mk .none (.store 1 (.t 150) (.t 149)) .none 133 .none .false [] .false]) (.seq (.reg 134 8 [.mk (.some 152)
  (.load 4 .true (.t 1)) .none 134 .none .false [] .false, .mk (.some 153) (.load 3 .true (.t 20)) .none 135 .none .false [] .false, .mk (.some 154) (.call 19 [.t 152, .t 153])
  .none 136 .none .false [] .false, .mk (.some 151) (.mv (.t 154)) .none 137 .none .false [] .false, .mk (.some 155) (.ext (.t 151) 0) .none 138 .none .false [] .false, .mk (.some
  156) (.ext (.t 151) 1) .none 139 .none .false [] .false, .mk (.some 21) (.mv (.t 155)) .none 140 .none .false [] .false, .mk (.some 22) (.mv (.t 156)) .none 141 .none .false []
  .false]) (.seq (.reg 142 8 [.mk (.some 158) (.load 4 .true (.t 1)) .none 142 .none .false [] .false, .mk (.some 159) (.load 3 .true (.t 20)) .none 143 .none .false [] .false, .mk
  (.some 160) (.call 17 [.t 158, .t 159]) .none 144 .none .false [] .false, .mk (.some 157) (.mv (.t 160)) .none 145 .none .false [] .false, .mk (.some 161) (.ext (.t 157) 0) .none
  146 .none .false [] .false, .mk (.some 162) (.ext (.t 157) 1) .none 147 .none .false [] .false, .mk (.some 23) (.mv (.t 161)) .none 148 .none .false [] .false, .mk (.some 24) (.mv
  (.t 162)) .none 149 .none .false [] .false]) (.seq (.reg 150 7 [.mk (.some 164) (.load 4 .true (.t 1)) .none 150 .none .false [] .false, .mk (.some 165) (.call 15 [.t 164, .k
  (.int .i64 1000)]) .none 151 .none .false [] .false, .mk (.some 163) (.mv (.t 165)) .none 152 .none .false [] .false, .mk (.some 166) (.ext (.t 163) 0) .none 153 .none .false []
  .false, .mk (.some 167) (.ext (.t 163) 1) .none 154 .none .false [] .false, .mk (.some 25) (.mv (.t 166)) .none 155 .none .false [] .false, .mk (.some 26) (.mv (.t 167)) .none 156
  .none .false [] .false]) (.seq (.reg 157 10 [.mk (.some 169) (.load 4 .true (.t 1)) .none 157 .none .false [] .false, .mk (.some 170) (.load 3 .true (.t 2)) .none 158 .none .false
  [] .false, .mk (.some 171) (.bsl 3 1 4 [.int .i64 0, .int .i64 0, .int .i64 0, .int .i64 0] [(0, .k (.int .i64 1)), (1, .k (.int .i64 0)), (2, .k (.int .i64 2)), (3, .k (.int .i64
  1))]) .none 159 .none .false [] .false, .mk (.some 172) (.mv (.t 9)) .none 160 .none .false [] .false, .mk (.some 173) (.call 26 [.t 169, .t 170, .t 171, .t 172]) .none 161 .none
  .false [] .false, .mk (.some 168) (.mv (.t 173)) .none 162 .none .false [] .false, .mk (.some 174) (.ext (.t 168) 0) .none 163 .none .false [] .false, .mk (.some 175) (.ext (.t
  168) 1) .none 164 .none .false [] .false, .mk (.some 27) (.mv (.t 174)) .none 165 .none .false [] .false, .mk (.some 28) (.mv (.t 175)) .none 166 .none .false [] .false]) (.seq
  (.draw 167 11 [2, 1, 9] [] [.mk (.some 177) (.load 4 .true (.t 1)) .none 167 (.some []) .true [] .false, .mk (.some 178) (.load 3 .true (.t 2)) .none 168 (.some []) .true []
  .false, .mk (.some 179) (.bslp 3 1 5 [.int .i64 0, .int .i64 0, .int .i64 0, .int .i64 0, .int .i64 0] [(0, .k (.int .i64 1)), (1, .k (.int .i64 0)), (2, .k (.int .i64 2)), (3, .k
  (.int .i64 1)), (4, .k (.int .i64 0))]) .none 169 (.some []) .true [] .false, .mk (.some 180) (.mv (.t 9)) .none 170 (.some []) .true [] .false, .mk (.some 181) (.slc 2 (.t 180)
  .none (.some (.k (.int .i64 4))) .none) .none 171 (.some []) .true [] .false, .mk (.some 182) (.call 26 [.t 177, .t 178, .t 179, .t 181]) .none 172 (.some [169]) .false [] .false,
  .mk (.some 176) (.mv (.t 182)) .none 173 (.some [169, 172]) .true [] .false, .mk (.some 183) (.ext (.t 176) 0) .none 174 (.some [172, 169]) .true [] .false, .mk (.some 184) (.ext
  (.t 176) 1) .none 175 (.some [172, 169]) .true [] .false, .mk (.some 29) (.mv (.t 183)) .none 176 (.some [169, 172]) .true [] .false, .mk (.some 30) (.mv (.t 184)) .none 177
  (.some [169, 172]) .true [] .false]) (.seq (.reg 178 11 [.mk (.some 186) (.load 4 .true (.t 1)) .none 178 .none .false [] .false, .mk (.some 187) (.load 3 .true (.t 2)) .none 179
  .none .false [] .false, .mk (.some 188) (.bsl 3 1 5 [.int .i64 0, .int .i64 0, .int .i64 0, .int .i64 0, .int .i64 0] [(0, .k (.int .i64 0)), (1, .k (.int .i64 0)), (2, .k (.int
  .i64 2)), (3, .k (.int .i64 1)), (4, .k (.int .i64 0))]) .none 180 .none .false [] .false, .mk (.some 189) (.call 27 [.t 186, .t 187, .t 188, .k (.int .i64 1), .k (.int .i64
  600)]) .none 181 .none .false [] .false, .mk (.some 185) (.mv (.t 189)) .none 182 .none .false [] .false, .mk (.some 190) (.ext (.t 185) 0) .none 183 .none .false [] .false, .mk
  (.some 191) (.ext (.t 185) 1) .none 184 .none .false [] .false, .mk (.some 192) (.ext (.t 185) 2) .none 185 .none .false [] .false, .mk (.some 31) (.mv (.t 190)) .none 186 .none
  .false [] .false, .mk (.some 32) (.mv (.t 191)) .none 187 .none .false [] .false, .mk (.some 33) (.mv (.t 192)) .none 188 .none .false [] .false]) (.seq (.reg 189 11 [.mk (.some
  194) (.load 4 .true (.t 1)) .none 189 .none .false [] .false, .mk (.some 195) (.load 3 .true (.t 2)) .none 190 .none .false [] .false, .mk (.some 196) (.bsl 3 1 5 [.int .i64 0,
  .int .i64 0, .int .i64 0, .int .i64 0, .int .i64 0] [(0, .k (.int .i64 1)), (1, .k (.int .i64 0)), (2, .k (.int .i64 2)), (3, .k (.int .i64 1)), (4, .k (.int .i64 0))]) .none 191
  .none .false [] .false, .mk (.some 197) (.call 27 [.t 194, .t 195, .t 196, .k (.int .i64 3), .k (.int .i64 600)]) .none 192 .none .false [] .false, .mk (.some 193) (.mv (.t 197))
  .none 193 .none .false [] .false, .mk (.some 198) (.ext (.t 193) 0) .none 194 .none .false [] .false, .mk (.some 199) (.ext (.t 193) 1) .none 195 .none .false [] .false, .mk
  (.some 200) (.ext (.t 193) 2) .none 196 .none .false [] .false, .mk (.some 34) (.mv (.t 198)) .none 197 .none .false [] .false, .mk (.some 35) (.mv (.t 199)) .none 198 .none
  .false [] .false, .mk (.some 36) (.mv (.t 200)) .none 199 .none .false [] .false]) (.seq (.reg 200 3 [.mk (.some 201) (.load 4 .true (.t 1)) .none 200 .none .false [] .false, .mk
  (.some 37) (.alloc 32 [.int .i64 0, .slice .none 0 0, .int .i64 0, .int .i64 0]) .none 201 .none .false [] .false, .mk .none (.store 4 (.t 37) (.t 201)) .none 202 .none .false []
  .false]) (.seq (.reg 203 4 [.mk (.some 202) (.faddr 2 (.t 37)) .none 203 .none .false [] .false, .mk .none (.store 1 (.t 202) (.k (.int .i64 20))) .none 204 .none .false []
  .false, .mk (.some 203) (.faddr 3 (.t 37)) .none 205 .none .false [] .false, .mk .none (.store 1 (.t 203) (.k (.int .i64 20))) .none 206 .none .false [] .false]) (.seq (.reg 207 3
  [.mk (.some 204) (.load 4 .true (.t 1)) .none 207 .none .false [] .false, .mk (.some 38) (.alloc 32 [.int .i64 0, .slice .none 0 0, .int .i64 0, .int .i64 0]) .none 208 .none
  .false [] .false, .mk .none (.store 4 (.t 38) (.t 204)) .none 209 .none .false [] .false]) (.seq (.reg 210 4 [.mk (.some 205) (.bld [(0, 1), (1, 1)] [.int .i64 0, .int .i64 0]
  [(1, .k (.int .i64 1000))]) .none 210 .none .false [] .false, .mk (.some 206) (.bsl 35 2 1 [.int .i64 0, .int .i64 0] [(0, .t 205)]) .none 211 .none .false [] .false, .mk (.some
  207) (.faddr 1 (.t 38)) .none 212 .none .false [] .false, .mk .none (.store 1 (.t 207) (.t 206)) .none 213 .none .false [] .false]) (.seq (.reg 214 7 [.mk (.some 209) (.load 4
  .true (.t 38)) .none 214 .none .false [] .false, .mk (.some 210) (.call 12 [.t 209]) .none 215 .none .false [] .false, .mk (.some 208) (.mv (.t 210)) .none 216 .none .false []
  .false, .mk (.some 211) (.ext (.t 208) 0) .none 217 .none .false [] .false, .mk (.some 212) (.ext (.t 208) 1) .none 218 .none .false [] .false, .mk (.some 39) (.mv (.t 211)) .none
  219 .none .false [] .false, .mk (.some 40) (.mv (.t 212)) .none 220 .none .false [] .false]) (.seq (.reg 221 8 [.mk (.some 214) (.load 4 .true (.t 38)) .none 221 .none .false []
  .false, .mk (.some 215) (.load 3 .true (.t 20)) .none 222 .none .false [] .false, .mk (.some 216) (.call 17 [.t 214, .t 215]) .none 223 .none .false [] .false, .mk (.some 213)
  (.mv (.t 216)) .none 224 .none .false [] .false, .mk (.some 217) (.ext (.t 213) 0) .none 225 .none .false [] .false, .mk (.some 218) (.ext (.t 213) 1) .none 226 .none .false []
  .false, .mk (.some 41) (.mv (.t 217)) .none 227 .none .false [] .false, .mk (.some 42) (.mv (.t 218)) .none 228 .none .false [] .false]) (.seq (.reg 229 71 [.mk (.some 219) (.mv
  (.t 19)) .none 229 .none .false [] .false, .mk (.some 220) (.bin .eql (.t 219) (.k (.int .i64 7))) .none 230 .none .false [] .false, .mk (.some 221) (.mv (.t 220)) .none 231 .none
  .false [] .false, .mk (.some 222) (.mv (.t 22)) (.some (221, .true)) 232 .none .false [] .false, .mk (.some 223) (.bin .eql (.t 222) (.k (.int .i64 0))) (.some (221, .true)) 233
  .none .false [] .false, .mk (.some 224) (.pick (.t 221) (.t 223) (.k (.bool .false))) .none 234 .none .false [] .false, .mk (.some 225) (.mv (.t 224)) .none 235 .none .false []
  .false, .mk (.some 226) (.mv (.t 21)) (.some (225, .true)) 236 .none .false [] .false, .mk (.some 227) (.bin .eql (.t 226) (.k (.int .i64 2))) (.some (225, .true)) 237 .none
  .false [] .false, .mk (.some 228) (.pick (.t 225) (.t 227) (.k (.bool .false))) .none 238 .none .false [] .false, .mk (.some 229) (.mv (.t 228)) .none 239 .none .false [] .false,
  .mk (.some 230) (.mv (.t 24)) (.some (229, .true)) 240 .none .false [] .false, .mk (.some 231) (.bin .eql (.t 230) (.k (.int .i64 9))) (.some (229, .true)) 241 .none .false []
  .false, .mk (.some 232) (.pick (.t 229) (.t 231) (.k (.bool .false))) .none 242 .none .false [] .false, .mk (.some 233) (.mv (.t 232)) .none 243 .none .false [] .false, .mk (.some
  234) (.mv (.t 26)) (.some (233, .true)) 244 .none .false [] .false, .mk (.some 235) (.bin .eql (.t 234) (.k (.int .i64 2))) (.some (233, .true)) 245 .none .false [] .false, .mk
  (.some 236) (.pick (.t 233) (.t 235) (.k (.bool .false))) .none 246 .none .false [] .false, .mk (.some 237) (.mv (.t 236)) .none 247 .none .false [] .false, .mk (.some 238) (.mv
  (.t 28)) (.some (237, .true)) 248 .none .false [] .false, .mk (.some 239) (.bin .eql (.t 238) (.k (.int .i64 2))) (.some (237, .true)) 249 .none .false [] .false, .mk (.some 240)
  (.pick (.t 237) (.t 239) (.k (.bool .false))) .none 250 .none .false [] .false, .mk (.some 241) (.mv (.t 240)) .none 251 .none .false [] .false, .mk (.some 242) (.mv (.t 30))
  (.some (241, .true)) 252 .none .false [] .false, .mk (.some 243) (.bin .eql (.t 242) (.k (.int .i64 1))) (.some (241, .true)) 253 .none .false [] .false, .mk (.some 244) (.pick
  (.t 241) (.t 243) (.k (.bool .false))) .none 254 .none .false [] .false, .mk (.some 245) (.mv (.t 244)) .none 255 .none .false [] .false, .mk (.some 246) (.mv (.t 33)) (.some
  (245, .true)) 256 .none .false [] .false, .mk (.some 247) (.bin .eql (.t 246) (.k (.int .i64 9))) (.some (245, .true)) 257 .none .false [] .false, .mk (.some 248) (.pick (.t 245)
  (.t 247) (.k (.bool .false))) .none 258 .none .false [] .false, .mk (.some 249) (.mv (.t 248)) .none 259 .none .false [] .false, .mk (.some 250) (.mv (.t 36)) (.some (249, .true))
  260 .none .false [] .false, .mk (.some 251) (.bin .eql (.t 250) (.k (.int .i64 2))) (.some (249, .true)) 261 .none .false [] .false, .mk (.some 252) (.pick (.t 249) (.t 251) (.k
  (.bool .false))) .none 262 .none .false [] .false, .mk (.some 253) (.mv (.t 252)) .none 263 .none .false [] .false, .mk (.some 254) (.load 4 .true (.t 37)) (.some (253, .true))
  264 .none .false [] .false, .mk (.some 255) (.call 30 [.t 254]) (.some (253, .true)) 265 .none .false [] .false, .mk (.some 256) (.bin .eql (.t 255) (.k (.int .i64 3))) (.some
  (253, .true)) 266 .none .false [] .false, .mk (.some 257) (.pick (.t 253) (.t 256) (.k (.bool .false))) .none 267 .none .false [] .false, .mk (.some 258) (.mv (.t 257)) .none 268
  .none .false [] .false, .mk (.some 259) (.mv (.t 40)) (.some (258, .true)) 269 .none .false [] .false, .mk (.some 260) (.bin .eql (.t 259) (.k (.int .i64 0))) (.some (258, .true))
  270 .none .false [] .false, .mk (.some 261) (.pick (.t 258) (.t 260) (.k (.bool .false))) .none 271 .none .false [] .false, .mk (.some 262) (.mv (.t 261)) .none 272 .none .false
  [] .false, .mk (.some 263) (.mv (.t 39)) (.some (262, .true)) 273 .none .false [] .false, .mk (.some 264) (.len (.t 263)) (.some (262, .true)) 274 .none .false [] .false, .mk
  (.some 265) (.bin .eql (.t 264) (.k (.int .i64 0))) (.some (262, .true)) 275 .none .false [] .false, .mk (.some 266) (.pick (.t 262) (.t 265) (.k (.bool .false))) .none 276 .none
  .false [] .false, .mk (.some 267) (.mv (.t 266)) .none 277 .none .false [] .false, .mk (.some 268) (.mv (.t 42)) (.some (267, .true)) 278 .none .false [] .false, .mk (.some 269)
  (.bin .eql (.t 268) (.k (.int .i64 0))) (.some (267, .true)) 279 .none .false [] .false, .mk (.some 270) (.pick (.t 267) (.t 269) (.k (.bool .false))) .none 280 .none .false []
  .false, .mk (.some 271) (.mv (.t 270)) .none 281 .none .false [] .false, .mk (.some 272) (.mv (.t 41)) (.some (271, .true)) 282 .none .false [] .false, .mk (.some 273) (.len (.t
  272)) (.some (271, .true)) 283 .none .false [] .false, .mk (.some 274) (.bin .eql (.t 273) (.k (.int .i64 0))) (.some (271, .true)) 284 .none .false [] .false, .mk (.some 275)
  (.pick (.t 271) (.t 274) (.k (.bool .false))) .none 285 .none .false [] .false, .mk (.some 276) (.mv (.t 275)) .none 286 .none .false [] .false, .mk (.some 277) (.bld [(0, 1), (1,
  1), (2, 1)] [.slice .none 0 0, .int .i64 0, .int .i64 0] []) (.some (276, .true)) 287 .none .false [] .false, .mk (.some 278) (.call 31 [.t 277]) (.some (276, .true)) 288 .none
  .false [] .false, .mk (.some 279) (.bin .eql (.t 278) (.k (.int .i64 1))) (.some (276, .true)) 289 .none .false [] .false, .mk (.some 280) (.pick (.t 276) (.t 279) (.k (.bool
  .false))) .none 290 .none .false [] .false, .mk (.some 281) (.mv (.t 280)) .none 291 .none .false [] .false, .mk (.some 282) (.bld [(0, 1), (1, 1), (2, 1), (3, 1)] [.int .i64 0,
  .slice .none 0 0, .int .i64 0, .int .i64 0] []) (.some (281, .true)) 292 .none .false [] .false, .mk (.some 283) (.call 30 [.t 282]) (.some (281, .true)) 293 .none .false []
  .false, .mk (.some 284) (.bin .eql (.t 283) (.k (.int .i64 1))) (.some (281, .true)) 294 .none .false [] .false, .mk (.some 285) (.pick (.t 281) (.t 284) (.k (.bool .false)))
  .none 295 .none .false [] .false, .mk (.some 286) (.mv (.t 285)) .none 296 .none .false [] .false, .mk (.some 287) (.call 11 []) (.some (286, .true)) 297 .none .false [] .false,
  .mk (.some 288) (.pick (.t 286) (.t 287) (.k (.bool .false))) .none 298 .none .false [] .false, .mk (.some 0) (.mv (.t 288)) .none 299 .none .false [] .false])
  .ret))))))))))))))))))))))))))
def rs9 : List IRes := [.tmp 0]
set_option maxRecDepth 100000 in
theorem comp9 : Comp Try.prog 9 ir9 rs9 289 := ⟨⟨_, _, 300, Try.func9, rfl, by kernel_rfl, by kernel_rfl, rfl⟩⟩
theorem body9 : HasBody Try.prog 9 := hasBody_of (by kernel_rfl)

def ir10 : IC :=
  .seq (.reg 0 2 [.mk (.some 1) (.box 24 (.t 0)) .none 0 .none .false [] .false, .mk (.some 2) (.mv (.k (.int .i64 0))) .none 1 .none .false [] .false]) (.seq (.seq (.reg 2 3 [.mk
  (.some 3) (.load 4 .true (.t 1)) .none 2 .none .false [] .false, .mk (.some 4) (.call 32 [.t 3]) .none 3 .none .false [] .false, .mk (.some 5) (.un .not (.t 4)) .none 4 .none
  .false [] .false]) (.cond (.t 5) (.seq (.reg 5 1 [.mk (.some 2) (.mv (.k (.int .i64 1))) .none 5 .none .false [] .false]) .ret) .skip)) (.seq (.seq (.reg 6 4 [.mk (.some 6) (.load
  4 .true (.t 1)) .none 6 .none .false [] .false, .mk (.some 7) (.call 33 [.t 6]) .none 7 .none .false [] .false, .mk (.some 8) (.len (.t 7)) .none 8 .none .false [] .false, .mk
  (.some 9) (.bin .gtr (.t 8) (.k (.int .i64 40))) .none 9 .none .false [] .false]) (.cond (.t 9) (.seq (.reg 10 1 [.mk (.some 2) (.mv (.k (.int .i64 3))) .none 10 .none .false []
  .false]) .ret) .skip)) (.seq (.reg 11 1 [.mk (.some 2) (.mv (.k (.int .i64 0))) .none 11 .none .false [] .false]) .ret)))
def rs10 : List IRes := [.tmp 2]
set_option maxRecDepth 100000 in
theorem comp10 : Comp Try.prog 10 ir10 rs10 10 := ⟨⟨_, _, 12, Try.func10, rfl, by kernel_rfl, by kernel_rfl, rfl⟩⟩
theorem body10 : HasBody Try.prog 10 := hasBody_of (by kernel_rfl)

def ir11 : IC :=
  .seq (.reg 0 1 [.mk (.some 0) (.mv (.k (.bool .false))) .none 0 .none .false [] .false]) (.seq (.reg 1 8 [.mk (.some 8) (.call 28 []) .none 1 .none .false [] .false, .mk (.some 7)
  (.mv (.t 8)) .none 2 .none .false [] .false, .mk (.some 9) (.ext (.t 7) 0) .none 3 .none .false [] .false, .mk (.some 10) (.ext (.t 7) 1) .none 4 .none .false [] .false, .mk
  (.some 1) (.alloc 32 [.int .i64 0, .slice .none 0 0, .int .i64 0, .int .i64 0]) .none 5 .none .false [] .false, .mk (.some 2) (.alloc 52 [.slice .none 0 0, .int .i64 0, .int .i64
  0]) .none 6 .none .false [] .false, .mk .none (.store 4 (.t 1) (.t 9)) .none 7 .none .false [] .false, .mk .none (.store 3 (.t 2) (.t 10)) .none 8 .none .false [] .false]) (.seq
  (.reg 9 7 [.mk (.some 12) (.load 4 .true (.t 1)) .none 9 .none .false [] .false, .mk (.some 13) (.call 12 [.t 12]) .none 10 .none .false [] .false, .mk (.some 11) (.mv (.t 13))
  .none 11 .none .false [] .false, .mk (.some 14) (.ext (.t 11) 0) .none 12 .none .false [] .false, .mk (.some 15) (.ext (.t 11) 1) .none 13 .none .false [] .false, .mk (.some 3)
  (.mv (.t 14)) .none 14 .none .false [] .false, .mk (.some 4) (.mv (.t 15)) .none 15 .none .false [] .false]) (.seq (.reg 16 8 [.mk (.some 17) (.load 4 .true (.t 1)) .none 16 .none
  .false [] .false, .mk (.some 18) (.load 3 .true (.t 2)) .none 17 .none .false [] .false, .mk (.some 19) (.call 17 [.t 17, .t 18]) .none 18 .none .false [] .false, .mk (.some 16)
  (.mv (.t 19)) .none 19 .none .false [] .false, .mk (.some 20) (.ext (.t 16) 0) .none 20 .none .false [] .false, .mk (.some 21) (.ext (.t 16) 1) .none 21 .none .false [] .false,
  .mk (.some 5) (.mv (.t 20)) .none 22 .none .false [] .false, .mk (.some 6) (.mv (.t 21)) .none 23 .none .false [] .false]) (.seq (.reg 24 22 [.mk (.some 22) (.mv (.t 4)) .none 24
  .none .false [] .false, .mk (.some 23) (.bin .eql (.t 22) (.k (.int .i64 0))) .none 25 .none .false [] .false, .mk (.some 24) (.mv (.t 23)) .none 26 .none .false [] .false, .mk
  (.some 25) (.mv (.t 3)) (.some (24, .true)) 27 .none .false [] .false, .mk (.some 26) (.bld [(0, 1), (1, 1)] [.int .i64 0, .int .i64 0] [(1, .k (.int .i64 180))]) (.some (24,
  .true)) 28 .none .false [] .false, .mk (.some 27) (.bld [(0, 1), (1, 1)] [.int .i64 0, .int .i64 0] [(0, .k (.int .i64 180)), (1, .k (.int .i64 400))]) (.some (24, .true)) 29
  .none .false [] .false, .mk (.some 28) (.bld [(0, 1), (1, 1)] [.int .i64 0, .int .i64 0] [(0, .k (.int .i64 500)), (1, .k (.int .i64 680))]) (.some (24, .true)) 30 .none .false []
  .false, .mk (.some 29) (.bld [(0, 1), (1, 1)] [.int .i64 0, .int .i64 0] [(0, .k (.int .i64 680)), (1, .k (.int .i64 860))]) (.some (24, .true)) 31 .none .false [] .false, .mk
  (.some 30) (.bld [(0, 1), (1, 1)] [.int .i64 0, .int .i64 0] [(0, .k (.int .i64 860)), (1, .k (.int .i64 1000))]) (.some (24, .true)) 32 .none .false [] .false, .mk (.some 31)
  (.bsl 41 2 5 [.int .i64 0, .int .i64 0, .int .i64 0, .int .i64 0, .int .i64 0, .int .i64 0, .int .i64 0, .int .i64 0, .int .i64 0, .int .i64 0] [(0, .t 26), (1, .t 27), (2, .t
  28), (3, .t 29), (4, .t 30)]) (.some (24, .true)) 33 .none .false [] .false, .mk (.some 32) (.call 34 [.t 25, .t 31]) (.some (24, .true)) 34 .none .false [] .false, .mk (.some 33)
  (.pick (.t 24) (.t 32) (.k (.bool .false))) .none 35 .none .false [] .false, .mk (.some 34) (.mv (.t 33)) .none 36 .none .false [] .false, .mk (.some 35) (.mv (.t 6)) (.some (34,
  .true)) 37 .none .false [] .false, .mk (.some 36) (.bin .eql (.t 35) (.k (.int .i64 0))) (.some (34, .true)) 38 .none .false [] .false, .mk (.some 37) (.pick (.t 34) (.t 36) (.k
  (.bool .false))) .none 39 .none .false [] .false, .mk (.some 38) (.mv (.t 37)) .none 40 .none .false [] .false, .mk (.some 39) (.mv (.t 5)) (.some (38, .true)) 41 .none .false []
  .false, .mk (.some 40) (.bsl 3 1 5 [.int .i64 0, .int .i64 0, .int .i64 0, .int .i64 0, .int .i64 0] [(0, .k (.int .i64 1)), (1, .k (.int .i64 0)), (2, .k (.int .i64 2)), (3, .k
  (.int .i64 1)), (4, .k (.int .i64 0))]) (.some (38, .true)) 42 .none .false [] .false, .mk (.some 41) (.call 29 [.t 39, .t 40]) (.some (38, .true)) 43 .none .false [] .false, .mk
  (.some 42) (.pick (.t 38) (.t 41) (.k (.bool .false))) .none 44 .none .false [] .false, .mk (.some 0) (.mv (.t 42)) .none 45 .none .false [] .false]) .ret))))
def rs11 : List IRes := [.tmp 0]
set_option maxRecDepth 100000 in
theorem comp11 : Comp Try.prog 11 ir11 rs11 43 := ⟨⟨_, _, 46, Try.func11, rfl, by kernel_rfl, by kernel_rfl, rfl⟩⟩
theorem body11 : HasBody Try.prog 11 := hasBody_of (by kernel_rfl)

def ir12 : IC :=
  .seq (.reg 0 3 [.mk (.some 1) (.box 32 (.t 0)) .none 0 .none .false [] .false, .mk (.some 2) (.mv (.k (.slice .none 0 0))) .none 1 .none .false [] .false, .mk (.some 3) (.mv (.k
  (.int .i64 0))) .none 2 .none .false [] .false]) (.seq (.reg 3 6 [.mk (.some 4) (.load 4 .true (.t 1)) .none 3 .none .false [] .false, .mk (.some 5) (.call 35 [.t 4]) .none 4
  .none .false [] .false, .mk (.some 6) (.ext (.t 5) 0) .none 5 .none .false [] .false, .mk (.some 7) (.ext (.t 5) 1) .none 6 .none .false [] .false, .mk (.some 2) (.mv (.t 6))
  .none 7 .none .false [] .false, .mk (.some 3) (.mv (.t 7)) .none 8 .none .false [] .false]) .ret)
def rs12 : List IRes := [.tmp 2, .tmp 3]
set_option maxRecDepth 100000 in
theorem comp12 : Comp Try.prog 12 ir12 rs12 8 := ⟨⟨_, _, 9, Try.func12, rfl, by kernel_rfl, by kernel_rfl, rfl⟩⟩
theorem body12 : HasBody Try.prog 12 := hasBody_of (by kernel_rfl)

def ir13 : IC :=
  .seq (.reg 0 2 [.mk (.some 1) (.box 24 (.t 0)) .none 0 .none .false [] .false, .mk (.some 2) (.alloc 32 [.int .i64 0, .slice .none 0 0, .int .i64 0, .int .i64 0]) .none 1 .none
  .false [] .false]) (.seq (.reg 2 9 [.mk (.some 5) (.faddr 0 (.t 1)) .none 2 .none .false [] .false, .mk (.some 6) (.load 1 .false (.t 5)) .none 3 .none .false [] .false, .mk
  (.some 7) (.faddr 2 (.t 1)) .none 4 .none .false [] .false, .mk (.some 8) (.load 1 .false (.t 7)) .none 5 .none .false [] .false, .mk (.some 9) (.faddr 3 (.t 1)) .none 6 .none
  .false [] .false, .mk (.some 10) (.load 1 .false (.t 9)) .none 7 .none .false [] .false, .mk (.some 11) (.bld [(0, 1), (1, 1), (2, 1), (3, 1)] [.int .i64 0, .slice .none 0 0, .int
  .i64 0, .int .i64 0] [(0, .t 6), (2, .t 8), (3, .t 10)]) .none 8 .none .false [] .false, .mk (.some 3) (.alloc 32 [.int .i64 0, .slice .none 0 0, .int .i64 0, .int .i64 0]) .none
  9 .none .false [] .false, .mk .none (.store 4 (.t 3) (.t 11)) .none 10 .none .false [] .false]) (.seq (.seq (.reg 11 1 [.mk (.some 4) (.mv (.k (.int .i64 0))) .none 11 .none
  .false [] .false]) (.block 0 (.loop (.seq (.seq (.reg 12 5 [.mk (.some 12) (.mv (.t 4)) .none 12 .none .false [] .false, .mk (.some 13) (.faddr 1 (.t 1)) .none 13 .none .false []
  .false, .mk (.some 14) (.load 1 .false (.t 13)) .none 14 .none .false [] .false, .mk (.some 15) (.len (.t 14)) .none 15 .none .false [] .false, .mk (.some 16) (.bin .lss (.t 12)
  (.t 15)) .none 16 .none .false [] .false]) (.cond (.t 16) .skip (.exit 0))) (.seq (.block 1 (.draw 17 19 [] [] [.mk (.some 19) (.faddr 1 (.t 3)) .none 17 (.some []) .true []
  .false, .mk (.some 20) (.load 1 .false (.t 19)) .none 18 (.some []) .true [] .false, .mk (.some 21) (.faddr 1 (.t 1)) .none 19 (.some []) .true [] .false, .mk (.some 22) (.load 1
  .false (.t 21)) .none 20 (.some []) .true [] .false, .mk (.some 23) (.mv (.t 4)) .none 21 (.some []) .true [] .false, .mk (.some 24) (.iaddr 2 (.t 22) (.t 23)) .none 22 (.some [])
  .true [] .false, .mk (.some 25) (.faddr 0 (.t 24)) .none 23 (.some []) .true [] .false, .mk (.some 26) (.load 1 .false (.t 25)) .none 24 (.some []) .true [] .false, .mk (.some 27)
  (.faddr 1 (.t 1)) .none 25 (.some []) .true [] .false, .mk (.some 28) (.load 1 .false (.t 27)) .none 26 (.some []) .true [] .false, .mk (.some 29) (.mv (.t 4)) .none 27 (.some [])
  .true [] .false, .mk (.some 30) (.iaddr 2 (.t 28) (.t 29)) .none 28 (.some []) .true [] .false, .mk (.some 31) (.faddr 1 (.t 30)) .none 29 (.some []) .true [] .false, .mk (.some
  32) (.load 1 .false (.t 31)) .none 30 (.some []) .true [] .false, .mk (.some 33) (.bld [(0, 1), (1, 1)] [.int .i64 0, .int .i64 0] [(0, .t 26), (1, .t 32)]) .none 31 (.some [])
  .true [] .false, .mk (.some 34) (.bsl 35 2 1 [.int .i64 0, .int .i64 0] [(0, .t 33)]) .none 32 (.some []) .true [] .false, .mk (.some 35) (.app 35 2 16 (.t 20) (.t 34)) .none 33
  (.some [32]) .true [] .false, .mk (.some 36) (.faddr 1 (.t 3)) .none 34 (.some [33, 32]) .true [] .false, .mk .none (.store 1 (.t 36) (.t 35)) .none 35 (.some [32, 33]) .true []
  .false])) (.reg 36 3 [.mk (.some 17) (.mv (.t 4)) .none 36 .none .false [] .false, .mk (.some 18) (.bin .add (.t 17) (.k (.int .i64 1))) .none 37 .none .false [] .false, .mk
  (.some 4) (.mv (.t 18)) .none 38 .none .false [] .false])))))) (.seq (.reg 39 2 [.mk (.some 37) (.load 4 .true (.t 3)) .none 39 .none .false [] .false, .mk .none (.store 4 (.t 2)
  (.t 37)) .none 40 .none .false [] .false]) .ret)))
def rs13 : List IRes := [.cell 2 4 .true]
set_option maxRecDepth 100000 in
theorem comp13 : Comp Try.prog 13 ir13 rs13 38 := ⟨⟨_, _, 41, Try.func13, rfl, by kernel_rfl, by kernel_rfl, rfl⟩⟩
theorem body13 : HasBody Try.prog 13 := hasBody_of (by kernel_rfl)

def ir14 : IC :=
  .seq (.reg 0 2 [.mk (.some 2) (.box 24 (.t 0)) .none 0 .none .false [] .false, .mk (.some 4) (.mv (.k (.bool .false))) .none 1 .none .false [] .false]) (.seq (.seq (.reg 2 1 [.mk
  (.some 5) (.mv (.k (.int .i64 0))) .none 2 .none .false [] .false]) (.block 0 (.loop (.seq (.seq (.reg 3 5 [.mk (.some 6) (.mv (.t 5)) .none 3 .none .false [] .false, .mk (.some
  7) (.faddr 1 (.t 2)) .none 4 .none .false [] .false, .mk (.some 8) (.load 1 .false (.t 7)) .none 5 .none .false [] .false, .mk (.some 9) (.len (.t 8)) .none 6 .none .false []
  .false, .mk (.some 10) (.bin .lss (.t 6) (.t 9)) .none 7 .none .false [] .false]) (.cond (.t 10) .skip (.exit 0))) (.seq (.block 1 (.seq (.draw 8 15 [1] [] [.mk (.some 13) (.mv
  (.t 1)) .none 8 (.some []) .true [] .false, .mk (.some 14) (.faddr 1 (.t 2)) .none 9 (.some []) .true [] .false, .mk (.some 15) (.load 1 .false (.t 14)) .none 10 (.some []) .true
  [] .false, .mk (.some 16) (.mv (.t 5)) .none 11 (.some []) .true [] .false, .mk (.some 17) (.iaddr 2 (.t 15) (.t 16)) .none 12 (.some []) .true [] .false, .mk (.some 18) (.faddr 0
  (.t 17)) .none 13 (.some []) .true [] .false, .mk (.some 19) (.load 1 .false (.t 18)) .none 14 (.some []) .true [] .false, .mk (.some 20) (.faddr 1 (.t 2)) .none 15 (.some [])
  .true [] .false, .mk (.some 21) (.load 1 .false (.t 20)) .none 16 (.some []) .true [] .false, .mk (.some 22) (.mv (.t 5)) .none 17 (.some []) .true [] .false, .mk (.some 23)
  (.iaddr 2 (.t 21) (.t 22)) .none 18 (.some []) .true [] .false, .mk (.some 24) (.faddr 1 (.t 23)) .none 19 (.some []) .true [] .false, .mk (.some 25) (.load 1 .false (.t 24))
  .none 20 (.some []) .true [] .false, .mk (.some 26) (.bin .sub (.t 25) (.k (.int .i64 1))) .none 21 (.some []) .true [] .false, .mk (.some 27) (.call 36 [.t 13, .t 19, .t 26])
  .none 22 (.some []) .true [] .false]) (.cond (.t 27) (.seq (.reg 23 1 [.mk (.some 4) (.mv (.k (.bool .true))) .none 23 .none .false [] .false]) .ret) .skip))) (.reg 24 3 [.mk
  (.some 11) (.mv (.t 5)) .none 24 .none .false [] .false, .mk (.some 12) (.bin .add (.t 11) (.k (.int .i64 1))) .none 25 .none .false [] .false, .mk (.some 5) (.mv (.t 12)) .none
  26 .none .false [] .false])))))) (.seq (.reg 27 1 [.mk (.some 4) (.mv (.k (.bool .false))) .none 27 .none .false [] .false]) .ret))
def rs14 : List IRes := [.tmp 4]
set_option maxRecDepth 100000 in
theorem comp14 : Comp Try.prog 14 ir14 rs14 28 := ⟨⟨_, _, 28, Try.func14, rfl, by kernel_rfl, by kernel_rfl, rfl⟩⟩
theorem body14 : HasBody Try.prog 14 := hasBody_of (by kernel_rfl)

def ir15 : IC :=
  .seq (.reg 0 4 [.mk (.some 2) (.box 32 (.t 0)) .none 0 .none .false [] .false, .mk (.some 3) (.box 3 (.t 1)) .none 1 .none .false [] .false, .mk (.some 4) (.mv (.k (.int .i64 0)))
  .none 2 .none .false [] .false, .mk (.some 5) (.mv (.k (.int .i64 0))) .none 3 .none .false [] .false]) (.seq (.reg 4 7 [.mk (.some 10) (.load 4 .true (.t 2)) .none 4 .none .false
  [] .false, .mk (.some 11) (.call 35 [.t 10]) .none 5 .none .false [] .false, .mk (.some 9) (.mv (.t 11)) .none 6 .none .false [] .false, .mk (.some 12) (.ext (.t 9) 0) .none 7
  .none .false [] .false, .mk (.some 13) (.ext (.t 9) 1) .none 8 .none .false [] .false, .mk (.some 6) (.mv (.t 12)) .none 9 .none .false [] .false, .mk (.some 7) (.mv (.t 13))
  .none 10 .none .false [] .false]) (.seq (.seq (.reg 11 2 [.mk (.some 14) (.mv (.t 7)) .none 11 .none .false [] .false, .mk (.some 15) (.bin .neq (.t 14) (.k (.int .i64 0))) .none
  12 .none .false [] .false]) (.cond (.t 15) (.seq (.reg 13 3 [.mk (.some 16) (.mv (.t 7)) .none 13 .none .false [] .false, .mk (.some 4) (.mv (.k (.int .i64 0))) .none 14 .none
  .false [] .false, .mk (.some 5) (.mv (.t 16)) .none 15 .none .false [] .false]) .ret) .skip)) (.seq (.seq (.reg 16 6 [.mk (.some 17) (.load 1 .false (.t 3)) .none 16 .none .false
  [] .false, .mk (.some 18) (.faddr 0 (.t 2)) .none 17 .none .false [] .false, .mk (.some 19) (.load 1 .false (.t 18)) .none 18 .none .false [] .false, .mk (.some 20) (.bin .sub (.t
  19) (.k (.int .i64 1))) .none 19 .none .false [] .false, .mk (.some 21) (.call 37 [.t 17, .k (.int .i64 0), .t 20]) .none 20 .none .false [] .false, .mk (.some 22) (.un .not (.t
  21)) .none 21 .none .false [] .false]) (.cond (.t 22) (.seq (.reg 22 2 [.mk (.some 4) (.mv (.k (.int .i64 0))) .none 22 .none .false [] .false, .mk (.some 5) (.mv (.k (.int .i64
  2))) .none 23 .none .false [] .false]) .ret) .skip)) (.seq (.reg 24 4 [.mk (.some 23) (.mv (.t 6)) .none 24 .none .false [] .false, .mk (.some 24) (.mkf 39 [] [.t 3]) .none 25
  .none .false [] .false, .mk (.some 25) (.call 38 [.t 23, .t 24]) .none 26 .none .false [] .false, .mk (.some 8) (.mv (.t 25)) .none 27 .none .false [] .false]) (.seq (.seq (.reg
  28 2 [.mk (.some 26) (.mv (.t 8)) .none 28 .none .false [] .false, .mk (.some 27) (.bin .lss (.t 26) (.k (.int .i64 0))) .none 29 .none .false [] .false]) (.cond (.t 27) (.seq
  (.reg 30 2 [.mk (.some 4) (.mv (.k (.int .i64 0))) .none 30 .none .false [] .false, .mk (.some 5) (.mv (.k (.int .i64 7))) .none 31 .none .false [] .false]) .ret) .skip)) (.seq
  (.reg 32 3 [.mk (.some 28) (.mv (.t 8)) .none 32 .none .false [] .false, .mk (.some 4) (.mv (.t 28)) .none 33 .none .false [] .false, .mk (.some 5) (.mv (.k (.int .i64 0))) .none
  34 .none .false [] .false]) .ret))))))
def rs15 : List IRes := [.tmp 4, .tmp 5]
set_option maxRecDepth 100000 in
theorem comp15 : Comp Try.prog 15 ir15 rs15 29 := ⟨⟨_, _, 35, Try.func15, rfl, by kernel_rfl, by kernel_rfl, rfl⟩⟩
theorem body15 : HasBody Try.prog 15 := hasBody_of (by kernel_rfl)

def ir16 : IC :=
  .seq (.reg 0 3 [.mk (.some 2) (.box 24 (.t 0)) .none 0 .none .false [] .false, .mk (.some 3) (.box 45 (.t 1)) .none 1 .none .false [] .false, .mk (.some 4) (.mv (.k (.bool .false)))
  .none 2 .none .false [] .false]) (.seq (.reg 3 10 [.mk (.some 5) (.load 4 .true (.t 2)) .none 3 .none .false [] .false, .mk (.some 6) (.load 3 .true (.t 3)) .none 4 .none .false
  [] .false, .mk (.some 7) (.call 41 [.t 5, .t 6]) .none 5 .none .false [] .false, .mk (.some 8) (.mv (.t 7)) .none 6 .none .false [] .false, .mk (.some 9) (.load 4 .true (.t 2))
  (.some (8, .true)) 7 .none .false [] .false, .mk (.some 10) (.load 3 .true (.t 3)) (.some (8, .true)) 8 .none .false [] .false, .mk (.some 11) (.call 42 [.t 9, .t 10]) (.some (8,
  .true)) 9 .none .false [] .false, .mk (.some 12) (.bin .eql (.t 11) (.k (.int .i64 0))) (.some (8, .true)) 10 .none .false [] .false, .mk (.some 13) (.pick (.t 8) (.t 12) (.k
  (.bool .false))) .none 11 .none .false [] .false, .mk (.some 4) (.mv (.t 13)) .none 12 .none .false [] .false]) .ret)
def rs16 : List IRes := [.tmp 4]
set_option maxRecDepth 100000 in
theorem comp16 : Comp Try.prog 16 ir16 rs16 14 := ⟨⟨_, _, 13, Try.func16, rfl, by kernel_rfl, by kernel_rfl, rfl⟩⟩
theorem body16 : HasBody Try.prog 16 := hasBody_of (by kernel_rfl)

def ir17 : IC :=
  .seq (.reg 0 4 [.mk (.some 2) (.box 32 (.t 0)) .none 0 .none .false [] .false, .mk (.some 3) (.box 52 (.t 1)) .none 1 .none .false [] .false, .mk (.some 4) (.mv (.k (.slice .none 0
  0))) .none 2 .none .false [] .false, .mk (.some 5) (.mv (.k (.int .i64 0))) .none 3 .none .false [] .false]) (.seq (.reg 4 8 [.mk (.some 11) (.load 4 .true (.t 2)) .none 4 .none
  .false [] .false, .mk (.some 12) (.load 3 .true (.t 3)) .none 5 .none .false [] .false, .mk (.some 13) (.call 43 [.t 11, .t 12]) .none 6 .none .false [] .false, .mk (.some 10)
  (.mv (.t 13)) .none 7 .none .false [] .false, .mk (.some 14) (.ext (.t 10) 0) .none 8 .none .false [] .false, .mk (.some 15) (.ext (.t 10) 1) .none 9 .none .false [] .false, .mk
  (.some 6) (.mv (.t 14)) .none 10 .none .false [] .false, .mk (.some 7) (.mv (.t 15)) .none 11 .none .false [] .false]) (.seq (.seq (.reg 12 2 [.mk (.some 16) (.mv (.t 7)) .none 12
  .none .false [] .false, .mk (.some 17) (.bin .neq (.t 16) (.k (.int .i64 0))) .none 13 .none .false [] .false]) (.cond (.t 17) (.seq (.reg 14 3 [.mk (.some 18) (.mv (.t 7)) .none
  14 .none .false [] .false, .mk (.some 4) (.mv (.k (.slice .none 0 0))) .none 15 .none .false [] .false, .mk (.some 5) (.mv (.t 18)) .none 16 .none .false [] .false]) .ret) .skip))
  (.seq (.reg 17 7 [.mk (.some 20) (.mv (.t 6)) .none 17 .none .false [] .false, .mk (.some 21) (.call 44 [.t 20, .k (.slice .none 0 0), .k (.int .i64 (-1))]) .none 18 .none .false
  [] .false, .mk (.some 19) (.mv (.t 21)) .none 19 .none .false [] .false, .mk (.some 22) (.ext (.t 19) 0) .none 20 .none .false [] .false, .mk (.some 23) (.ext (.t 19) 1) .none 21
  .none .false [] .false, .mk (.some 8) (.mv (.t 22)) .none 22 .none .false [] .false, .mk (.some 9) (.mv (.t 23)) .none 23 .none .false [] .false]) (.seq (.seq (.reg 24 7 [.mk
  (.some 24) (.mv (.t 9)) .none 24 .none .false [] .false, .mk (.some 25) (.mv (.t 6)) .none 25 .none .false [] .false, .mk (.some 26) (.nilc (.t 25)) .none 26 .none .false []
  .false, .mk (.some 27) (.faddr 7 (.t 26)) .none 27 .none .false [] .false, .mk (.some 28) (.load 1 .false (.t 27)) .none 28 .none .false [] .false, .mk (.some 29) (.len (.t 28))
  .none 29 .none .false [] .false, .mk (.some 30) (.bin .lss (.t 24) (.t 29)) .none 30 .none .false [] .false]) (.cond (.t 30) (.seq (.reg 31 2 [.mk (.some 4) (.mv (.k (.slice .none
  0 0))) .none 31 .none .false [] .false, .mk (.some 5) (.mv (.k (.int .i64 9))) .none 32 .none .false [] .false]) .ret) .skip)) (.seq (.reg 33 3 [.mk (.some 31) (.mv (.t 8)) .none
  33 .none .false [] .false, .mk (.some 4) (.mv (.t 31)) .none 34 .none .false [] .false, .mk (.some 5) (.mv (.k (.int .i64 0))) .none 35 .none .false [] .false]) .ret)))))
def rs17 : List IRes := [.tmp 4, .tmp 5]
set_option maxRecDepth 100000 in
theorem comp17 : Comp Try.prog 17 ir17 rs17 32 := ⟨⟨_, _, 36, Try.func17, rfl, by kernel_rfl, by kernel_rfl, rfl⟩⟩
theorem body17 : HasBody Try.prog 17 := hasBody_of (by kernel_rfl)

def ir18 : IC :=
  .seq (.reg 0 2 [.mk (.some 1) (.box 45 (.t 0)) .none 0 .none .false [] .false, .mk (.some 2) (.alloc 52 [.slice .none 0 0, .int .i64 0, .int .i64 0]) .none 1 .none .false []
  .false]) (.seq (.reg 2 7 [.mk (.some 6) (.faddr 1 (.t 1)) .none 2 .none .false [] .false, .mk (.some 7) (.load 1 .false (.t 6)) .none 3 .none .false [] .false, .mk (.some 8)
  (.faddr 2 (.t 1)) .none 4 .none .false [] .false, .mk (.some 9) (.load 1 .false (.t 8)) .none 5 .none .false [] .false, .mk (.some 10) (.bld [(0, 1), (1, 1), (2, 1)] [.slice .none
  0 0, .int .i64 0, .int .i64 0] [(1, .t 7), (2, .t 9)]) .none 6 .none .false [] .false, .mk (.some 3) (.alloc 52 [.slice .none 0 0, .int .i64 0, .int .i64 0]) .none 7 .none .false
  [] .false, .mk .none (.store 3 (.t 3) (.t 10)) .none 8 .none .false [] .false]) (.seq (.seq (.reg 9 1 [.mk (.some 4) (.mv (.k (.int .i64 0))) .none 9 .none .false [] .false])
  (.block 0 (.loop (.seq (.seq (.reg 10 5 [.mk (.some 11) (.mv (.t 4)) .none 10 .none .false [] .false, .mk (.some 12) (.faddr 0 (.t 1)) .none 11 .none .false [] .false, .mk (.some
  13) (.load 1 .false (.t 12)) .none 12 .none .false [] .false, .mk (.some 14) (.len (.t 13)) .none 13 .none .false [] .false, .mk (.some 15) (.bin .lss (.t 11) (.t 14)) .none 14
  .none .false [] .false]) (.cond (.t 15) .skip (.exit 0))) (.seq (.block 1 (.seq (.reg 15 7 [.mk (.some 18) (.faddr 0 (.t 1)) .none 15 .none .false [] .false, .mk (.some 19) (.load
  1 .false (.t 18)) .none 16 .none .false [] .false, .mk (.some 20) (.mv (.t 4)) .none 17 .none .false [] .false, .mk (.some 21) (.iaddr 3 (.t 19) (.t 20)) .none 18 .none .false []
  .false, .mk (.some 22) (.load 3 .true (.t 21)) .none 19 .none .false [] .false, .mk (.some 5) (.alloc 62 [.int .i64 0, .int .i64 0, .int .i64 0]) .none 20 .none .false [] .false,
  .mk .none (.store 3 (.t 5) (.t 22)) .none 21 .none .false [] .false]) (.reg 22 16 [.mk (.some 23) (.faddr 0 (.t 3)) .none 22 .none .false [] .false, .mk (.some 24) (.load 1 .false
  (.t 23)) .none 23 .none .false [] .false, .mk (.some 25) (.faddr 0 (.t 5)) .none 24 .none .false [] .false, .mk (.some 26) (.faddr 0 (.t 25)) .none 25 .none .false [] .false, .mk
  (.some 27) (.load 1 .false (.t 26)) .none 26 .none .false [] .false, .mk (.some 28) (.faddr 0 (.t 5)) .none 27 .none .false [] .false, .mk (.some 29) (.faddr 1 (.t 28)) .none 28
  .none .false [] .false, .mk (.some 30) (.load 1 .false (.t 29)) .none 29 .none .false [] .false, .mk (.some 31) (.bld [(0, 1), (1, 1)] [.int .i64 0, .int .i64 0] [(0, .t 27), (1,
  .t 30)]) .none 30 .none .false [] .false, .mk (.some 32) (.faddr 2 (.t 5)) .none 31 .none .false [] .false, .mk (.some 33) (.load 1 .false (.t 32)) .none 32 .none .false []
  .false, .mk (.some 34) (.bld [(0, 2), (2, 1)] [.int .i64 0, .int .i64 0, .int .i64 0] [(0, .t 31), (1, .t 33)]) .none 33 .none .false [] .false, .mk (.some 35) (.bsl 99 3 1 [.int
  .i64 0, .int .i64 0, .int .i64 0] [(0, .t 34)]) .none 34 .none .false [] .false, .mk (.some 36) (.app 99 3 24 (.t 24) (.t 35)) .none 35 .none .false [] .false, .mk (.some 37)
  (.faddr 0 (.t 3)) .none 36 .none .false [] .false, .mk .none (.store 1 (.t 37) (.t 36)) .none 37 .none .false [] .false]))) (.reg 38 3 [.mk (.some 16) (.mv (.t 4)) .none 38 .none
  .false [] .false, .mk (.some 17) (.bin .add (.t 16) (.k (.int .i64 1))) .none 39 .none .false [] .false, .mk (.some 4) (.mv (.t 17)) .none 40 .none .false [] .false])))))) (.seq
  (.reg 41 2 [.mk (.some 38) (.load 3 .true (.t 3)) .none 41 .none .false [] .false, .mk .none (.store 3 (.t 2) (.t 38)) .none 42 .none .false [] .false]) .ret)))
def rs18 : List IRes := [.cell 2 3 .true]
set_option maxRecDepth 100000 in
theorem comp18 : Comp Try.prog 18 ir18 rs18 39 := ⟨⟨_, _, 43, Try.func18, rfl, by kernel_rfl, by kernel_rfl, rfl⟩⟩
theorem body18 : HasBody Try.prog 18 := hasBody_of (by kernel_rfl)

def ir19 : IC :=
  .seq (.reg 0 4 [.mk (.some 2) (.box 32 (.t 0)) .none 0 .none .false [] .false, .mk (.some 3) (.box 52 (.t 1)) .none 1 .none .false [] .false, .mk (.some 4) (.mv (.k (.int .i64 0)))
  .none 2 .none .false [] .false, .mk (.some 5) (.mv (.k (.int .i64 0))) .none 3 .none .false [] .false]) (.seq (.reg 4 8 [.mk (.some 11) (.load 4 .true (.t 2)) .none 4 .none .false
  [] .false, .mk (.some 12) (.load 3 .true (.t 3)) .none 5 .none .false [] .false, .mk (.some 13) (.call 43 [.t 11, .t 12]) .none 6 .none .false [] .false, .mk (.some 10) (.mv (.t
  13)) .none 7 .none .false [] .false, .mk (.some 14) (.ext (.t 10) 0) .none 8 .none .false [] .false, .mk (.some 15) (.ext (.t 10) 1) .none 9 .none .false [] .false, .mk (.some 6)
  (.mv (.t 14)) .none 10 .none .false [] .false, .mk (.some 7) (.mv (.t 15)) .none 11 .none .false [] .false]) (.seq (.seq (.reg 12 2 [.mk (.some 16) (.mv (.t 7)) .none 12 .none
  .false [] .false, .mk (.some 17) (.bin .neq (.t 16) (.k (.int .i64 0))) .none 13 .none .false [] .false]) (.cond (.t 17) (.seq (.reg 14 3 [.mk (.some 18) (.mv (.t 7)) .none 14
  .none .false [] .false, .mk (.some 4) (.mv (.k (.int .i64 0))) .none 15 .none .false [] .false, .mk (.some 5) (.mv (.t 18)) .none 16 .none .false [] .false]) .ret) .skip)) (.seq
  (.reg 17 7 [.mk (.some 20) (.mv (.t 6)) .none 17 .none .false [] .false, .mk (.some 21) (.call 44 [.t 20, .k (.slice .none 0 0), .k (.int .i64 (-1))]) .none 18 .none .false []
  .false, .mk (.some 19) (.mv (.t 21)) .none 19 .none .false [] .false, .mk (.some 22) (.ext (.t 19) 0) .none 20 .none .false [] .false, .mk (.some 23) (.ext (.t 19) 1) .none 21
  .none .false [] .false, .mk (.some 8) (.mv (.t 22)) .none 22 .none .false [] .false, .mk (.some 9) (.mv (.t 23)) .none 23 .none .false [] .false]) (.seq (.seq (.reg 24 7 [.mk
  (.some 24) (.mv (.t 9)) .none 24 .none .false [] .false, .mk (.some 25) (.mv (.t 6)) .none 25 .none .false [] .false, .mk (.some 26) (.nilc (.t 25)) .none 26 .none .false []
  .false, .mk (.some 27) (.faddr 7 (.t 26)) .none 27 .none .false [] .false, .mk (.some 28) (.load 1 .false (.t 27)) .none 28 .none .false [] .false, .mk (.some 29) (.len (.t 28))
  .none 29 .none .false [] .false, .mk (.some 30) (.bin .eql (.t 24) (.t 29)) .none 30 .none .false [] .false]) (.cond (.t 30) (.seq (.reg 31 2 [.mk (.some 4) (.mv (.k (.int .i64
  0))) .none 31 .none .false [] .false, .mk (.some 5) (.mv (.k (.int .i64 7))) .none 32 .none .false [] .false]) .ret) .skip)) (.seq (.reg 33 3 [.mk (.some 31) (.mv (.t 9)) .none 33
  .none .false [] .false, .mk (.some 4) (.mv (.t 31)) .none 34 .none .false [] .false, .mk (.some 5) (.mv (.k (.int .i64 0))) .none 35 .none .false [] .false]) .ret)))))
def rs19 : List IRes := [.tmp 4, .tmp 5]
set_option maxRecDepth 100000 in
theorem comp19 : Comp Try.prog 19 ir19 rs19 32 := ⟨⟨_, _, 36, Try.func19, rfl, by kernel_rfl, by kernel_rfl, rfl⟩⟩
theorem body19 : HasBody Try.prog 19 := hasBody_of (by kernel_rfl)

def ir20 : IC :=
  .seq (.reg 0 3 [.mk (.some 3) (.box 32 (.t 0)) .none 0 .none .false [] .false, .mk (.some 4) (.box 52 (.t 1)) .none 1 .none .false [] .false, .mk (.some 6) (.mv (.k (.bool .false)))
  .none 2 .none .false [] .false]) (.seq (.reg 3 8 [.mk (.some 10) (.load 4 .true (.t 3)) .none 3 .none .false [] .false, .mk (.some 11) (.load 3 .true (.t 4)) .none 4 .none .false
  [] .false, .mk (.some 12) (.call 43 [.t 10, .t 11]) .none 5 .none .false [] .false, .mk (.some 9) (.mv (.t 12)) .none 6 .none .false [] .false, .mk (.some 13) (.ext (.t 9) 0)
  .none 7 .none .false [] .false, .mk (.some 14) (.ext (.t 9) 1) .none 8 .none .false [] .false, .mk (.some 7) (.mv (.t 13)) .none 9 .none .false [] .false, .mk (.some 8) (.mv (.t
  14)) .none 10 .none .false [] .false]) (.seq (.reg 11 13 [.mk (.some 15) (.mv (.t 8)) .none 11 .none .false [] .false, .mk (.some 16) (.bin .eql (.t 15) (.k (.int .i64 0))) .none
  12 .none .false [] .false, .mk (.some 17) (.mv (.t 16)) .none 13 .none .false [] .false, .mk (.some 18) (.mv (.t 7)) (.some (17, .true)) 14 .none .false [] .false, .mk (.some 19)
  (.mv (.t 2)) (.some (17, .true)) 15 .none .false [] .false, .mk (.some 20) (.call 45 [.t 18, .t 19]) (.some (17, .true)) 16 .none .false [] .false, .mk (.some 21) (.pick (.t 17)
  (.t 20) (.k (.bool .false))) .none 17 .none .false [] .false, .mk (.some 22) (.mv (.t 21)) .none 18 .none .false [] .false, .mk (.some 23) (.mv (.t 7)) (.some (22, .true)) 19
  .none .false [] .false, .mk (.some 24) (.mv (.t 2)) (.some (22, .true)) 20 .none .false [] .false, .mk (.some 25) (.call 46 [.t 23, .t 24]) (.some (22, .true)) 21 .none .false []
  .false, .mk (.some 26) (.pick (.t 22) (.t 25) (.k (.bool .false))) .none 22 .none .false [] .false, .mk (.some 6) (.mv (.t 26)) .none 23 .none .false [] .false]) .ret))
def rs20 : List IRes := [.tmp 6]
set_option maxRecDepth 100000 in
theorem comp20 : Comp Try.prog 20 ir20 rs20 27 := ⟨⟨_, _, 24, Try.func20, rfl, by kernel_rfl, by kernel_rfl, rfl⟩⟩
theorem body20 : HasBody Try.prog 20 := hasBody_of (by kernel_rfl)

def ir21 : IC :=
  .seq (.reg 0 1 [.mk (.some 2) (.mv (.k (.slice .none 0 0))) .none 0 .none .false [] .false]) (.seq (.reg 1 3 [.mk (.some 3) (.mv (.t 0)) .none 1 .none .false [] .false, .mk (.some
  4) (.app 3 1 8 (.k (.slice .none 0 0)) (.t 3)) .none 2 .none .false [] .false, .mk (.some 2) (.mv (.t 4)) .none 3 .none .false [] .false]) .ret)
def rs21 : List IRes := [.tmp 2]
set_option maxRecDepth 100000 in
theorem comp21 : Comp Try.prog 21 ir21 rs21 5 := ⟨⟨_, _, 4, Try.func21, rfl, by kernel_rfl, by kernel_rfl, rfl⟩⟩
theorem body21 : HasBody Try.prog 21 := hasBody_of (by kernel_rfl)

def ir22 : IC :=
  .seq (.reg 0 2 [.mk (.some 2) (.box 24 (.t 0)) .none 0 .none .false [] .false, .mk (.some 4) (.alloc 24 [.int .i64 0, .slice .none 0 0, .int .i64 0, .int .i64 0]) .none 1 .none
  .false [] .false]) (.seq (.reg 2 8 [.mk (.some 7) (.mv (.t 1)) .none 2 .none .false [] .false, .mk (.some 8) (.faddr 2 (.t 2)) .none 3 .none .false [] .false, .mk (.some 9) (.load
  1 .false (.t 8)) .none 4 .none .false [] .false, .mk (.some 10) (.faddr 3 (.t 2)) .none 5 .none .false [] .false, .mk (.some 11) (.load 1 .false (.t 10)) .none 6 .none .false []
  .false, .mk (.some 12) (.bld [(0, 1), (1, 1), (2, 1), (3, 1)] [.int .i64 0, .slice .none 0 0, .int .i64 0, .int .i64 0] [(0, .t 7), (2, .t 9), (3, .t 11)]) .none 7 .none .false []
  .false, .mk (.some 5) (.alloc 24 [.int .i64 0, .slice .none 0 0, .int .i64 0, .int .i64 0]) .none 8 .none .false [] .false, .mk .none (.store 4 (.t 5) (.t 12)) .none 9 .none
  .false [] .false]) (.seq (.seq (.reg 10 1 [.mk (.some 6) (.mv (.k (.int .i64 0))) .none 10 .none .false [] .false]) (.block 0 (.loop (.seq (.seq (.reg 11 5 [.mk (.some 13) (.mv
  (.t 6)) .none 11 .none .false [] .false, .mk (.some 14) (.faddr 1 (.t 2)) .none 12 .none .false [] .false, .mk (.some 15) (.load 1 .false (.t 14)) .none 13 .none .false [] .false,
  .mk (.some 16) (.len (.t 15)) .none 14 .none .false [] .false, .mk (.some 17) (.bin .lss (.t 13) (.t 16)) .none 15 .none .false [] .false]) (.cond (.t 17) .skip (.exit 0))) (.seq
  (.block 1 (.seq (.reg 16 8 [.mk (.some 20) (.faddr 1 (.t 2)) .none 16 .none .false [] .false, .mk (.some 21) (.load 1 .false (.t 20)) .none 17 .none .false [] .false, .mk (.some
  22) (.mv (.t 6)) .none 18 .none .false [] .false, .mk (.some 23) (.iaddr 2 (.t 21) (.t 22)) .none 19 .none .false [] .false, .mk (.some 24) (.faddr 1 (.t 23)) .none 20 .none
  .false [] .false, .mk (.some 25) (.load 1 .false (.t 24)) .none 21 .none .false [] .false, .mk (.some 26) (.mv (.t 1)) .none 22 .none .false [] .false, .mk (.some 27) (.bin .leq
  (.t 25) (.t 26)) .none 23 .none .false [] .false]) (.cond (.t 27) (.draw 24 11 [] [] [.mk (.some 28) (.faddr 1 (.t 5)) .none 24 (.some []) .true [] .false, .mk (.some 29) (.load 1
  .false (.t 28)) .none 25 (.some []) .true [] .false, .mk (.some 30) (.faddr 1 (.t 2)) .none 26 (.some []) .true [] .false, .mk (.some 31) (.load 1 .false (.t 30)) .none 27 (.some
  []) .true [] .false, .mk (.some 32) (.mv (.t 6)) .none 28 (.some []) .true [] .false, .mk (.some 33) (.iaddr 2 (.t 31) (.t 32)) .none 29 (.some []) .true [] .false, .mk (.some 34)
  (.load 2 .true (.t 33)) .none 30 (.some []) .true [] .false, .mk (.some 35) (.bsl 41 2 1 [.int .i64 0, .int .i64 0] [(0, .t 34)]) .none 31 (.some []) .true [] .false, .mk (.some
  36) (.app 41 2 16 (.t 29) (.t 35)) .none 32 (.some [31]) .true [] .false, .mk (.some 37) (.faddr 1 (.t 5)) .none 33 (.some [32, 31]) .true [] .false, .mk .none (.store 1 (.t 37)
  (.t 36)) .none 34 (.some [31, 32]) .true [] .false]) .skip))) (.reg 35 3 [.mk (.some 18) (.mv (.t 6)) .none 35 .none .false [] .false, .mk (.some 19) (.bin .add (.t 18) (.k (.int
  .i64 1))) .none 36 .none .false [] .false, .mk (.some 6) (.mv (.t 19)) .none 37 .none .false [] .false])))))) (.seq (.reg 38 2 [.mk (.some 38) (.load 4 .true (.t 5)) .none 38
  .none .false [] .false, .mk .none (.store 4 (.t 4) (.t 38)) .none 39 .none .false [] .false]) .ret)))
def rs22 : List IRes := [.cell 4 4 .true]
set_option maxRecDepth 100000 in
theorem comp22 : Comp Try.prog 22 ir22 rs22 39 := ⟨⟨_, _, 40, Try.func22, rfl, by kernel_rfl, by kernel_rfl, rfl⟩⟩
theorem body22 : HasBody Try.prog 22 := hasBody_of (by kernel_rfl)

def ir23 : IC :=
  .seq (.reg 0 2 [.mk (.some 1) (.box 45 (.t 0)) .none 0 .none .false [] .false, .mk (.some 2) (.mv (.k (.bool .false))) .none 1 .none .false [] .false]) (.seq (.seq (.reg 2 1 [.mk
  (.some 3) (.mv (.k (.int .i64 0))) .none 2 .none .false [] .false]) (.block 0 (.loop (.seq (.seq (.reg 3 5 [.mk (.some 5) (.mv (.t 3)) .none 3 .none .false [] .false, .mk (.some
  6) (.faddr 0 (.t 1)) .none 4 .none .false [] .false, .mk (.some 7) (.load 1 .false (.t 6)) .none 5 .none .false [] .false, .mk (.some 8) (.len (.t 7)) .none 6 .none .false []
  .false, .mk (.some 9) (.bin .lss (.t 5) (.t 8)) .none 7 .none .false [] .false]) (.cond (.t 9) .skip (.exit 0))) (.seq (.block 1 (.seq (.reg 8 7 [.mk (.some 12) (.faddr 0 (.t 1))
  .none 8 .none .false [] .false, .mk (.some 13) (.load 1 .false (.t 12)) .none 9 .none .false [] .false, .mk (.some 14) (.mv (.t 3)) .none 10 .none .false [] .false, .mk (.some 15)
  (.iaddr 3 (.t 13) (.t 14)) .none 11 .none .false [] .false, .mk (.some 16) (.load 3 .true (.t 15)) .none 12 .none .false [] .false, .mk (.some 4) (.alloc 62 [.int .i64 0, .int
  .i64 0, .int .i64 0]) .none 13 .none .false [] .false, .mk .none (.store 3 (.t 4) (.t 16)) .none 14 .none .false [] .false]) (.seq (.reg 15 25 [.mk (.some 17) (.faddr 0 (.t 4))
  .none 15 .none .false [] .false, .mk (.some 18) (.faddr 0 (.t 17)) .none 16 .none .false [] .false, .mk (.some 19) (.load 1 .false (.t 18)) .none 17 .none .false [] .false, .mk
  (.some 20) (.bin .lss (.t 19) (.k (.int .i64 0))) .none 18 .none .false [] .false, .mk (.some 21) (.mv (.t 20)) .none 19 .none .false [] .false, .mk (.some 22) (.faddr 0 (.t 4))
  (.some (21, .false)) 20 .none .false [] .false, .mk (.some 23) (.faddr 0 (.t 22)) (.some (21, .false)) 21 .none .false [] .false, .mk (.some 24) (.load 1 .false (.t 23)) (.some
  (21, .false)) 22 .none .false [] .false, .mk (.some 25) (.faddr 0 (.t 4)) (.some (21, .false)) 23 .none .false [] .false, .mk (.some 26) (.faddr 1 (.t 25)) (.some (21, .false)) 24
  .none .false [] .false, .mk (.some 27) (.load 1 .false (.t 26)) (.some (21, .false)) 25 .none .false [] .false, .mk (.some 28) (.bin .gtr (.t 24) (.t 27)) (.some (21, .false)) 26
  .none .false [] .false, .mk (.some 29) (.pick (.t 21) (.k (.bool .true)) (.t 28)) .none 27 .none .false [] .false, .mk (.some 30) (.mv (.t 29)) .none 28 .none .false [] .false,
  .mk (.some 31) (.faddr 0 (.t 4)) (.some (30, .false)) 29 .none .false [] .false, .mk (.some 32) (.faddr 1 (.t 31)) (.some (30, .false)) 30 .none .false [] .false, .mk (.some 33)
  (.load 1 .false (.t 32)) (.some (30, .false)) 31 .none .false [] .false, .mk (.some 34) (.bin .gtr (.t 33) (.k (.int .i64 20))) (.some (30, .false)) 32 .none .false [] .false, .mk
  (.some 35) (.pick (.t 30) (.k (.bool .true)) (.t 34)) .none 33 .none .false [] .false, .mk (.some 36) (.mv (.t 35)) .none 34 .none .false [] .false, .mk (.some 37) (.faddr 2 (.t
  4)) (.some (36, .false)) 35 .none .false [] .false, .mk (.some 38) (.load 1 .false (.t 37)) (.some (36, .false)) 36 .none .false [] .false, .mk (.some 39) (.call 36 [.t 38, .k
  (.int .i64 0), .k (.int .i64 36000)]) (.some (36, .false)) 37 .none .false [] .false, .mk (.some 40) (.un .not (.t 39)) (.some (36, .false)) 38 .none .false [] .false, .mk (.some
  41) (.pick (.t 36) (.k (.bool .true)) (.t 40)) .none 39 .none .false [] .false]) (.cond (.t 41) (.seq (.reg 40 1 [.mk (.some 2) (.mv (.k (.bool .false))) .none 40 .none .false []
  .false]) .ret) .skip)))) (.reg 41 3 [.mk (.some 10) (.mv (.t 3)) .none 41 .none .false [] .false, .mk (.some 11) (.bin .add (.t 10) (.k (.int .i64 1))) .none 42 .none .false []
  .false, .mk (.some 3) (.mv (.t 11)) .none 43 .none .false [] .false])))))) (.seq (.reg 44 15 [.mk (.some 42) (.faddr 0 (.t 1)) .none 44 .none .false [] .false, .mk (.some 43)
  (.load 1 .false (.t 42)) .none 45 .none .false [] .false, .mk (.some 44) (.len (.t 43)) .none 46 .none .false [] .false, .mk (.some 45) (.call 36 [.t 44, .k (.int .i64 1), .k
  (.int .i64 5)]) .none 47 .none .false [] .false, .mk (.some 46) (.mv (.t 45)) .none 48 .none .false [] .false, .mk (.some 47) (.faddr 1 (.t 1)) (.some (46, .true)) 49 .none .false
  [] .false, .mk (.some 48) (.load 1 .false (.t 47)) (.some (46, .true)) 50 .none .false [] .false, .mk (.some 49) (.call 36 [.t 48, .k (.int .i64 0), .k (.int .i64 36000)]) (.some
  (46, .true)) 51 .none .false [] .false, .mk (.some 50) (.pick (.t 46) (.t 49) (.k (.bool .false))) .none 52 .none .false [] .false, .mk (.some 51) (.mv (.t 50)) .none 53 .none
  .false [] .false, .mk (.some 52) (.faddr 2 (.t 1)) (.some (51, .true)) 54 .none .false [] .false, .mk (.some 53) (.load 1 .false (.t 52)) (.some (51, .true)) 55 .none .false []
  .false, .mk (.some 54) (.call 36 [.t 53, .k (.int .i64 0), .k (.int .i64 36000)]) (.some (51, .true)) 56 .none .false [] .false, .mk (.some 55) (.pick (.t 51) (.t 54) (.k (.bool
  .false))) .none 57 .none .false [] .false, .mk (.some 2) (.mv (.t 55)) .none 58 .none .false [] .false]) .ret))
def rs23 : List IRes := [.tmp 2]
set_option maxRecDepth 100000 in
theorem comp23 : Comp Try.prog 23 ir23 rs23 56 := ⟨⟨_, _, 59, Try.func23, rfl, by kernel_rfl, by kernel_rfl, rfl⟩⟩
theorem body23 : HasBody Try.prog 23 := hasBody_of (by kernel_rfl)

def ir24 : IC :=
  .seq (.reg 0 2 [.mk (.some 3) (.box 45 (.t 0)) .none 0 .none .false [] .false, .mk (.some 6) (.mv (.k (.bool .false))) .none 1 .none .false [] .false]) (.seq (.seq (.reg 2 1 [.mk
  (.some 7) (.mv (.k (.int .i64 0))) .none 2 .none .false [] .false]) (.block 0 (.loop (.seq (.seq (.reg 3 4 [.mk (.some 8) (.mv (.t 7)) .none 3 .none .false [] .false, .mk (.some
  9) (.mv (.t 2)) .none 4 .none .false [] .false, .mk (.some 10) (.len (.t 9)) .none 5 .none .false [] .false, .mk (.some 11) (.bin .lss (.t 8) (.t 10)) .none 6 .none .false []
  .false]) (.cond (.t 11) .skip (.exit 0))) (.seq (.block 1 (.seq (.draw 7 10 [] [] [.mk (.some 14) (.mv (.t 2)) .none 7 (.some []) .true [] .false, .mk (.some 15) (.mv (.t 7))
  .none 8 (.some []) .true [] .false, .mk (.some 16) (.iaddr 1 (.t 14) (.t 15)) .none 9 (.some []) .true [] .false, .mk (.some 17) (.load 1 .false (.t 16)) .none 10 (.some []) .true
  [] .false, .mk (.some 18) (.faddr 0 (.t 3)) .none 11 (.some []) .true [] .false, .mk (.some 19) (.load 1 .false (.t 18)) .none 12 (.some []) .true [] .false, .mk (.some 20) (.len
  (.t 19)) .none 13 (.some []) .true [] .false, .mk (.some 21) (.bin .sub (.t 20) (.k (.int .i64 1))) .none 14 (.some []) .true [] .false, .mk (.some 22) (.call 36 [.t 17, .k (.int
  .i64 0), .t 21]) .none 15 (.some []) .true [] .false, .mk (.some 23) (.un .not (.t 22)) .none 16 (.some [15]) .true [] .false]) (.cond (.t 23) (.seq (.reg 17 1 [.mk (.some 6) (.mv
  (.k (.bool .false))) .none 17 .none .false [] .false]) .ret) .skip))) (.reg 18 3 [.mk (.some 12) (.mv (.t 7)) .none 18 .none .false [] .false, .mk (.some 13) (.bin .add (.t 12)
  (.k (.int .i64 1))) .none 19 .none .false [] .false, .mk (.some 7) (.mv (.t 13)) .none 20 .none .false [] .false])))))) (.seq (.reg 21 6 [.mk (.some 24) (.mv (.t 2)) .none 21
  .none .false [] .false, .mk (.some 25) (.len (.t 24)) .none 22 .none .false [] .false, .mk (.some 26) (.mv (.t 1)) .none 23 .none .false [] .false, .mk (.some 27) (.len (.t 26))
  .none 24 .none .false [] .false, .mk (.some 28) (.bin .eql (.t 25) (.t 27)) .none 25 .none .false [] .false, .mk (.some 6) (.mv (.t 28)) .none 26 .none .false [] .false]) .ret))
def rs24 : List IRes := [.tmp 6]
set_option maxRecDepth 100000 in
theorem comp24 : Comp Try.prog 24 ir24 rs24 29 := ⟨⟨_, _, 27, Try.func24, rfl, by kernel_rfl, by kernel_rfl, rfl⟩⟩
theorem body24 : HasBody Try.prog 24 := hasBody_of (by kernel_rfl)

def ir25 : IC :=
  .seq (.reg 0 1 [.mk (.some 8) (.mv (.k (.int .i64 0))) .none 0 .none .false [] .false]) (.seq (.seq (.reg 1 3 [.mk (.some 9) (.mv (.t 2)) .none 1 .none .false [] .false, .mk (.some
  10) (.len (.t 9)) .none 2 .none .false [] .false, .mk (.some 11) (.bin .eql (.t 10) (.k (.int .i64 0))) .none 3 .none .false [] .false]) (.cond (.t 11) (.seq (.reg 4 2 [.mk (.some
  12) (.mv (.t 0)) .none 4 .none .false [] .false, .mk (.some 8) (.mv (.t 12)) .none 5 .none .false [] .false]) .ret) .skip)) (.seq (.reg 6 16 [.mk (.some 13) (.mv (.t 0)) .none 6
  .none .false [] .false, .mk (.some 14) (.mv (.t 2)) .none 7 .none .false [] .false, .mk (.some 15) (.mv (.t 3)) .none 8 .none .false [] .false, .mk (.some 16) (.mv (.t 2)) .none 9
  .none .false [] .false, .mk (.some 17) (.len (.t 16)) .none 10 .none .false [] .false, .mk (.some 18) (.bin .rem (.t 15) (.t 17)) .none 11 .none .false [] .false, .mk (.some 19)
  (.iaddr 1 (.t 14) (.t 18)) .none 12 .none .false [] .false, .mk (.some 20) (.load 1 .false (.t 19)) .none 13 .none .false [] .false, .mk (.some 21) (.conv .i64 (.t 20)) .none 14
  .none .false [] .false, .mk (.some 22) (.mv (.t 1)) .none 15 .none .false [] .false, .mk (.some 23) (.mv (.t 0)) .none 16 .none .false [] .false, .mk (.some 24) (.bin .sub (.t 22)
  (.t 23)) .none 17 .none .false [] .false, .mk (.some 25) (.bin .add (.t 24) (.k (.int .i64 1))) .none 18 .none .false [] .false, .mk (.some 26) (.bin .rem (.t 21) (.t 25)) .none
  19 .none .false [] .false, .mk (.some 27) (.bin .add (.t 13) (.t 26)) .none 20 .none .false [] .false, .mk (.some 8) (.mv (.t 27)) .none 21 .none .false [] .false]) .ret))
def rs25 : List IRes := [.tmp 8]
set_option maxRecDepth 100000 in
theorem comp25 : Comp Try.prog 25 ir25 rs25 28 := ⟨⟨_, _, 22, Try.func25, rfl, by kernel_rfl, by kernel_rfl, rfl⟩⟩
theorem body25 : HasBody Try.prog 25 := hasBody_of (by kernel_rfl)

def ir26 : IC :=
  .seq (.reg 0 4 [.mk (.some 4) (.box 32 (.t 0)) .none 0 .none .false [] .false, .mk (.some 5) (.box 52 (.t 1)) .none 1 .none .false [] .false, .mk (.some 8) (.mv (.k (.slice .none 0
  0))) .none 2 .none .false [] .false, .mk (.some 9) (.mv (.k (.int .i64 0))) .none 3 .none .false [] .false]) (.seq (.reg 4 8 [.mk (.some 17) (.load 4 .true (.t 4)) .none 4 .none
  .false [] .false, .mk (.some 18) (.load 3 .true (.t 5)) .none 5 .none .false [] .false, .mk (.some 19) (.call 43 [.t 17, .t 18]) .none 6 .none .false [] .false, .mk (.some 16)
  (.mv (.t 19)) .none 7 .none .false [] .false, .mk (.some 20) (.ext (.t 16) 0) .none 8 .none .false [] .false, .mk (.some 21) (.ext (.t 16) 1) .none 9 .none .false [] .false, .mk
  (.some 10) (.mv (.t 20)) .none 10 .none .false [] .false, .mk (.some 11) (.mv (.t 21)) .none 11 .none .false [] .false]) (.seq (.block 0 (.seq (.reg 12 3 [.mk (.some 23) (.mv (.t
  11)) .none 12 .none .false [] .false, .mk (.some 24) (.bin .neq (.t 23) (.k (.int .i64 0))) .none 13 .none .false [] .false, .mk (.some 22) (.mv (.t 24)) .none 14 .none .false []
  .false]) (.cond (.t 22) (.seq (.reg 15 3 [.mk (.some 25) (.mv (.t 11)) .none 15 .none .false [] .false, .mk (.some 8) (.mv (.k (.slice .none 0 0))) .none 16 .none .false []
  .false, .mk (.some 9) (.mv (.t 25)) .none 17 .none .false [] .false]) .ret) (.seq (.reg 18 5 [.mk (.some 27) (.mv (.t 10)) .none 18 .none .false [] .false, .mk (.some 28) (.mv (.t
  2)) .none 19 .none .false [] .false, .mk (.some 29) (.call 45 [.t 27, .t 28]) .none 20 .none .false [] .false, .mk (.some 30) (.un .not (.t 29)) .none 21 .none .false [] .false,
  .mk (.some 26) (.mv (.t 30)) .none 22 .none .false [] .false]) (.cond (.t 26) (.seq (.reg 23 2 [.mk (.some 8) (.mv (.k (.slice .none 0 0))) .none 23 .none .false [] .false, .mk
  (.some 9) (.mv (.k (.int .i64 2))) .none 24 .none .false [] .false]) .ret) (.seq (.reg 25 6 [.mk (.some 32) (.mv (.t 3)) .none 25 .none .false [] .false, .mk (.some 33) (.len (.t
  32)) .none 26 .none .false [] .false, .mk (.some 34) (.mv (.t 2)) .none 27 .none .false [] .false, .mk (.some 35) (.len (.t 34)) .none 28 .none .false [] .false, .mk (.some 36)
  (.bin .neq (.t 33) (.t 35)) .none 29 .none .false [] .false, .mk (.some 31) (.mv (.t 36)) .none 30 .none .false [] .false]) (.cond (.t 31) (.seq (.reg 31 2 [.mk (.some 8) (.mv (.k
  (.slice .none 0 0))) .none 31 .none .false [] .false, .mk (.some 9) (.mv (.k (.int .i64 1))) .none 32 .none .false [] .false]) .ret) .skip))))))) (.seq (.reg 33 1 [.mk (.some 12)
  (.mv (.k (.slice .none 0 0))) .none 33 .none .false [] .false]) (.seq (.seq (.reg 34 3 [.mk (.some 37) (.mv (.t 3)) .none 34 .none .false [] .false, .mk (.some 38) (.len (.t 37))
  .none 35 .none .false [] .false, .mk (.some 39) (.mv (.k (.int .i64 0))) .none 36 .none .false [] .false]) (.block 1 (.loop (.seq (.reg 37 1 [.mk (.some 40) (.bin .lss (.t 39) (.t
  38)) .none 37 .none .false [] .false]) (.seq (.cond (.t 40) .skip (.exit 1)) (.seq (.block 2 (.seq (.reg 38 6 [.mk (.some 41) (.mv (.t 39)) .none 38 .none .false [] .false, .mk
  (.some 42) (.iaddr 2 (.t 37) (.t 39)) .none 39 .none .false [] .false, .mk (.some 43) (.load 2 .true (.t 42)) .none 40 .none .false [] .false, .mk (.some 14) (.alloc 71 [.int .i64
  0, .int .i64 0]) .none 41 .none .false [] .false, .mk (.some 13) (.mv (.t 41)) .none 42 .none .false [] .false, .mk .none (.store 2 (.t 14) (.t 43)) .none 43 .none .false []
  .false]) (.seq (.draw 44 14 [] [] [.mk (.some 44) (.mv (.t 10)) .none 44 (.some []) .true [] .false, .mk (.some 45) (.nilc (.t 44)) .none 45 (.some []) .true [] .false, .mk (.some
  46) (.faddr 4 (.t 45)) .none 46 (.some []) .true [] .false, .mk (.some 47) (.faddr 0 (.t 46)) .none 47 (.some []) .true [] .false, .mk (.some 48) (.load 1 .false (.t 47)) .none 48
  (.some []) .true [] .false, .mk (.some 49) (.mv (.t 2)) .none 49 (.some []) .true [] .false, .mk (.some 50) (.mv (.t 13)) .none 50 (.some []) .true [] .false, .mk (.some 51)
  (.iaddr 1 (.t 49) (.t 50)) .none 51 (.some []) .true [] .false, .mk (.some 52) (.load 1 .false (.t 51)) .none 52 (.some []) .true [] .false, .mk (.some 53) (.iaddr 3 (.t 48) (.t
  52)) .none 53 (.some []) .true [] .false, .mk (.some 54) (.faddr 0 (.t 53)) .none 54 (.some []) .true [] .false, .mk (.some 55) (.load 2 .true (.t 54)) .none 55 (.some []) .true
  [] .false, .mk (.some 15) (.alloc 97 [.int .i64 0, .int .i64 0]) .none 56 (.some []) .true [] .false, .mk .none (.store 2 (.t 15) (.t 55)) .none 57 (.some [56]) .true [] .false])
  (.seq (.seq (.draw 58 19 [10, 15, 14] [] [.mk (.some 56) (.faddr 0 (.t 14)) .none 58 (.some []) .true [] .false, .mk (.some 57) (.load 1 .false (.t 56)) .none 59 (.some []) .true
  [] .false, .mk (.some 58) (.faddr 0 (.t 15)) .none 60 (.some []) .true [] .false, .mk (.some 59) (.load 1 .false (.t 58)) .none 61 (.some []) .true [] .false, .mk (.some 60)
  (.faddr 1 (.t 15)) .none 62 (.some []) .true [] .false, .mk (.some 61) (.load 1 .false (.t 60)) .none 63 (.some []) .true [] .false, .mk (.some 62) (.call 37 [.t 57, .t 59, .t
  61]) .none 64 (.some []) .true [] .false, .mk (.some 63) (.un .not (.t 62)) .none 65 (.some [64]) .true [] .false, .mk (.some 64) (.mv (.t 63)) .none 66 (.some [64]) .true []
  .false, .mk (.some 65) (.faddr 1 (.t 14)) (.some (64, .false)) 67 (.some [64]) .true [] .false, .mk (.some 66) (.load 1 .false (.t 65)) (.some (64, .false)) 68 (.some [64]) .false
  [] .false, .mk (.some 67) (.mv (.t 10)) (.some (64, .false)) 69 (.some [64]) .true [] .false, .mk (.some 68) (.nilc (.t 67)) (.some (64, .false)) 70 (.some [64]) .true [] .false,
  .mk (.some 69) (.faddr 4 (.t 68)) (.some (64, .false)) 71 (.some [64]) .true [] .false, .mk (.some 70) (.faddr 2 (.t 69)) (.some (64, .false)) 72 (.some [64]) .true [] .false, .mk
  (.some 71) (.load 1 .false (.t 70)) (.some (64, .false)) 73 (.some [64]) .false [] .false, .mk (.some 72) (.call 37 [.t 66, .k (.int .i64 0), .t 71]) (.some (64, .false)) 74
  (.some [64]) .false [] .false, .mk (.some 73) (.un .not (.t 72)) (.some (64, .false)) 75 (.some [64, 74]) .true [] .false, .mk (.some 74) (.pick (.t 64) (.k (.bool .true)) (.t
  73)) .none 76 (.some [74, 64]) .true [] .false]) (.cond (.t 74) (.seq (.reg 77 2 [.mk (.some 8) (.mv (.k (.slice .none 0 0))) .none 77 .none .false [] .false, .mk (.some 9) (.mv
  (.k (.int .i64 1))) .none 78 .none .false [] .false]) .ret) .skip)) (.draw 79 13 [14] [] [.mk (.some 75) (.mv (.t 12)) .none 79 (.some []) .true [] .false, .mk (.some 76) (.mv (.t
  10)) .none 80 (.some []) .true [] .false, .mk (.some 77) (.nilc (.t 76)) .none 81 (.some []) .true [] .false, .mk (.some 78) (.faddr 7 (.t 77)) .none 82 (.some []) .true []
  .false, .mk (.some 79) (.load 1 .false (.t 78)) .none 83 (.some []) .true [] .false, .mk (.some 80) (.mv (.t 13)) .none 84 (.some []) .true [] .false, .mk (.some 81) (.iaddr 2 (.t
  79) (.t 80)) .none 85 (.some []) .true [] .false, .mk (.some 82) (.load 2 .true (.t 81)) .none 86 (.some []) .true [] .false, .mk (.some 83) (.load 2 .true (.t 14)) .none 87
  (.some []) .true [] .false, .mk (.some 84) (.call 47 [.t 82, .t 83]) .none 88 (.some []) .true [] .false, .mk (.some 85) (.bsl 3 1 1 [.int .i64 0] [(0, .t 84)]) .none 89 (.some
  [88]) .true [] .false, .mk (.some 86) (.app 3 1 8 (.t 75) (.t 85)) .none 90 (.some [88, 89]) .false [] .false, .mk (.some 12) (.mv (.t 86)) .none 91 (.some [89, 88, 90]) .true []
  .false]))))) (.reg 92 2 [.mk (.some 87) (.bin .add (.t 39) (.k (.int .i64 1))) .none 92 .none .false [] .false, .mk (.some 39) (.mv (.t 87)) .none 93 .none .false []
  .false]))))))) (.seq (.reg 94 3 [.mk (.some 88) (.mv (.t 12)) .none 94 .none .false [] .false, .mk (.some 8) (.mv (.t 88)) .none 95 .none .false [] .false, .mk (.some 9) (.mv (.k
  (.int .i64 0))) .none 96 .none .false [] .false]) .ret)))))
def rs26 : List IRes := [.tmp 8, .tmp 9]
set_option maxRecDepth 100000 in
theorem comp26 : Comp Try.prog 26 ir26 rs26 89 := ⟨⟨_, _, 97, Try.func26, rfl, by kernel_rfl, by kernel_rfl, rfl⟩⟩
theorem body26 : HasBody Try.prog 26 := hasBody_of (by kernel_rfl)

def ir27 : IC :=
  .seq (.reg 0 5 [.mk (.some 5) (.box 32 (.t 0)) .none 0 .none .false [] .false, .mk (.some 6) (.box 52 (.t 1)) .none 1 .none .false [] .false, .mk (.some 10) (.mv (.k (.slice .none 0
  0))) .none 2 .none .false [] .false, .mk (.some 11) (.mv (.k (.slice .none 0 0))) .none 3 .none .false [] .false, .mk (.some 12) (.mv (.k (.int .i64 0))) .none 4 .none .false []
  .false]) (.seq (.reg 5 8 [.mk (.some 16) (.load 4 .true (.t 5)) .none 5 .none .false [] .false, .mk (.some 17) (.load 3 .true (.t 6)) .none 6 .none .false [] .false, .mk (.some
  18) (.call 43 [.t 16, .t 17]) .none 7 .none .false [] .false, .mk (.some 15) (.mv (.t 18)) .none 8 .none .false [] .false, .mk (.some 19) (.ext (.t 15) 0) .none 9 .none .false []
  .false, .mk (.some 20) (.ext (.t 15) 1) .none 10 .none .false [] .false, .mk (.some 13) (.mv (.t 19)) .none 11 .none .false [] .false, .mk (.some 12) (.mv (.t 20)) .none 12 .none
  .false [] .false]) (.seq (.block 0 (.seq (.reg 13 3 [.mk (.some 22) (.mv (.t 12)) .none 13 .none .false [] .false, .mk (.some 23) (.bin .neq (.t 22) (.k (.int .i64 0))) .none 14
  .none .false [] .false, .mk (.some 21) (.mv (.t 23)) .none 15 .none .false [] .false]) (.cond (.t 21) (.seq (.reg 16 4 [.mk (.some 24) (.mv (.t 12)) .none 16 .none .false []
  .false, .mk (.some 10) (.mv (.k (.slice .none 0 0))) .none 17 .none .false [] .false, .mk (.some 11) (.mv (.k (.slice .none 0 0))) .none 18 .none .false [] .false, .mk (.some 12)
  (.mv (.t 24)) .none 19 .none .false [] .false]) .ret) (.seq (.reg 20 5 [.mk (.some 26) (.mv (.t 13)) .none 20 .none .false [] .false, .mk (.some 27) (.mv (.t 2)) .none 21 .none
  .false [] .false, .mk (.some 28) (.call 45 [.t 26, .t 27]) .none 22 .none .false [] .false, .mk (.some 29) (.un .not (.t 28)) .none 23 .none .false [] .false, .mk (.some 25) (.mv
  (.t 29)) .none 24 .none .false [] .false]) (.cond (.t 25) (.seq (.reg 25 3 [.mk (.some 10) (.mv (.k (.slice .none 0 0))) .none 25 .none .false [] .false, .mk (.some 11) (.mv (.k
  (.slice .none 0 0))) .none 26 .none .false [] .false, .mk (.some 12) (.mv (.k (.int .i64 2))) .none 27 .none .false [] .false]) .ret) (.seq (.reg 28 5 [.mk (.some 31) (.mv (.t
  13)) .none 28 .none .false [] .false, .mk (.some 32) (.mv (.t 2)) .none 29 .none .false [] .false, .mk (.some 33) (.call 46 [.t 31, .t 32]) .none 30 .none .false [] .false, .mk
  (.some 34) (.un .not (.t 33)) .none 31 .none .false [] .false, .mk (.some 30) (.mv (.t 34)) .none 32 .none .false [] .false]) (.cond (.t 30) (.seq (.reg 33 3 [.mk (.some 10) (.mv
  (.k (.slice .none 0 0))) .none 33 .none .false [] .false, .mk (.some 11) (.mv (.k (.slice .none 0 0))) .none 34 .none .false [] .false, .mk (.some 12) (.mv (.k (.int .i64 9)))
  .none 35 .none .false [] .false]) .ret) (.seq (.reg 36 21 [.mk (.some 36) (.mv (.t 3)) .none 36 .none .false [] .false, .mk (.some 37) (.mv (.t 13)) .none 37 .none .false []
  .false, .mk (.some 38) (.nilc (.t 37)) .none 38 .none .false [] .false, .mk (.some 39) (.faddr 4 (.t 38)) .none 39 .none .false [] .false, .mk (.some 40) (.faddr 0 (.t 39)) .none
  40 .none .false [] .false, .mk (.some 41) (.load 1 .false (.t 40)) .none 41 .none .false [] .false, .mk (.some 42) (.len (.t 41)) .none 42 .none .false [] .false, .mk (.some 43)
  (.bin .sub (.t 42) (.k (.int .i64 1))) .none 43 .none .false [] .false, .mk (.some 44) (.call 37 [.t 36, .k (.int .i64 0), .t 43]) .none 44 .none .false [] .false, .mk (.some 45)
  (.un .not (.t 44)) .none 45 .none .false [] .false, .mk (.some 46) (.mv (.t 45)) .none 46 .none .false [] .false, .mk (.some 47) (.mv (.t 4)) (.some (46, .false)) 47 .none .false
  [] .false, .mk (.some 48) (.mv (.t 13)) (.some (46, .false)) 48 .none .false [] .false, .mk (.some 49) (.nilc (.t 48)) (.some (46, .false)) 49 .none .false [] .false, .mk (.some
  50) (.faddr 0 (.t 49)) (.some (46, .false)) 50 .none .false [] .false, .mk (.some 51) (.faddr 0 (.t 50)) (.some (46, .false)) 51 .none .false [] .false, .mk (.some 52) (.load 1
  .false (.t 51)) (.some (46, .false)) 52 .none .false [] .false, .mk (.some 53) (.call 37 [.t 47, .k (.int .i64 0), .t 52]) (.some (46, .false)) 53 .none .false [] .false, .mk
  (.some 54) (.un .not (.t 53)) (.some (46, .false)) 54 .none .false [] .false, .mk (.some 55) (.pick (.t 46) (.k (.bool .true)) (.t 54)) .none 55 .none .false [] .false, .mk (.some
  35) (.mv (.t 55)) .none 56 .none .false [] .false]) (.cond (.t 35) (.seq (.reg 57 3 [.mk (.some 10) (.mv (.k (.slice .none 0 0))) .none 57 .none .false [] .false, .mk (.some 11)
  (.mv (.k (.slice .none 0 0))) .none 58 .none .false [] .false, .mk (.some 12) (.mv (.k (.int .i64 2))) .none 59 .none .false [] .false]) .ret) .skip))))))))) (.seq (.reg 60 1 [.mk
  (.some 14) (.mv (.k (.int .i64 0))) .none 60 .none .false [] .false]) (.seq (.block 1 (.loop (.seq (.seq (.reg 61 19 [.mk (.some 56) (.mv (.t 14)) .none 61 .none .false [] .false,
  .mk (.some 57) (.mv (.t 13)) .none 62 .none .false [] .false, .mk (.some 58) (.nilc (.t 57)) .none 63 .none .false [] .false, .mk (.some 59) (.faddr 7 (.t 58)) .none 64 .none
  .false [] .false, .mk (.some 60) (.load 1 .false (.t 59)) .none 65 .none .false [] .false, .mk (.some 61) (.len (.t 60)) .none 66 .none .false [] .false, .mk (.some 62) (.bin .lss
  (.t 56) (.t 61)) .none 67 .none .false [] .false, .mk (.some 63) (.mv (.t 62)) .none 68 .none .false [] .false, .mk (.some 64) (.mv (.t 13)) (.some (63, .true)) 69 .none .false []
  .false, .mk (.some 65) (.nilc (.t 64)) (.some (63, .true)) 70 .none .false [] .false, .mk (.some 66) (.faddr 7 (.t 65)) (.some (63, .true)) 71 .none .false [] .false, .mk (.some
  67) (.load 1 .false (.t 66)) (.some (63, .true)) 72 .none .false [] .false, .mk (.some 68) (.mv (.t 14)) (.some (63, .true)) 73 .none .false [] .false, .mk (.some 69) (.iaddr 2
  (.t 67) (.t 68)) (.some (63, .true)) 74 .none .false [] .false, .mk (.some 70) (.faddr 0 (.t 69)) (.some (63, .true)) 75 .none .false [] .false, .mk (.some 71) (.load 1 .false (.t
  70)) (.some (63, .true)) 76 .none .false [] .false, .mk (.some 72) (.mv (.t 4)) (.some (63, .true)) 77 .none .false [] .false, .mk (.some 73) (.bin .lss (.t 71) (.t 72)) (.some
  (63, .true)) 78 .none .false [] .false, .mk (.some 74) (.pick (.t 63) (.t 73) (.k (.bool .false))) .none 79 .none .false [] .false]) (.cond (.t 74) .skip (.exit 1))) (.seq (.block
  2 (.seq (.reg 80 14 [.mk (.some 77) (.mv (.t 2)) .none 80 .none .false [] .false, .mk (.some 78) (.mv (.t 14)) .none 81 .none .false [] .false, .mk (.some 79) (.iaddr 1 (.t 77)
  (.t 78)) .none 82 .none .false [] .false, .mk (.some 80) (.load 1 .false (.t 79)) .none 83 .none .false [] .false, .mk (.some 81) (.mv (.t 3)) .none 84 .none .false [] .false, .mk
  (.some 82) (.bin .eql (.t 80) (.t 81)) .none 85 .none .false [] .false, .mk (.some 83) (.mv (.t 82)) .none 86 .none .false [] .false, .mk (.some 84) (.mv (.t 13)) (.some (83,
  .true)) 87 .none .false [] .false, .mk (.some 85) (.mv (.t 14)) (.some (83, .true)) 88 .none .false [] .false, .mk (.some 86) (.mv (.t 3)) (.some (83, .true)) 89 .none .false []
  .false, .mk (.some 87) (.call 48 [.t 84, .t 85, .t 86]) (.some (83, .true)) 90 .none .false [] .false, .mk (.some 88) (.mv (.t 4)) (.some (83, .true)) 91 .none .false [] .false,
  .mk (.some 89) (.bin .gtr (.t 87) (.t 88)) (.some (83, .true)) 92 .none .false [] .false, .mk (.some 90) (.pick (.t 83) (.t 89) (.k (.bool .false))) .none 93 .none .false []
  .false]) (.cond (.t 90) (.reg 94 5 [.mk (.some 91) (.mv (.t 11)) .none 94 .none .false [] .false, .mk (.some 92) (.mv (.t 14)) .none 95 .none .false [] .false, .mk (.some 93)
  (.bsl 3 1 1 [.int .i64 0] [(0, .t 92)]) .none 96 .none .false [] .false, .mk (.some 94) (.app 3 1 8 (.t 91) (.t 93)) .none 97 .none .false [] .false, .mk (.some 11) (.mv (.t 94))
  .none 98 .none .false [] .false]) .skip))) (.reg 99 3 [.mk (.some 75) (.mv (.t 14)) .none 99 .none .false [] .false, .mk (.some 76) (.bin .add (.t 75) (.k (.int .i64 1))) .none
  100 .none .false [] .false, .mk (.some 14) (.mv (.t 76)) .none 101 .none .false [] .false]))))) (.seq (.reg 102 10 [.mk (.some 96) (.mv (.t 13)) .none 102 .none .false [] .false,
  .mk (.some 97) (.mv (.t 2)) .none 103 .none .false [] .false, .mk (.some 98) (.mv (.t 14)) .none 104 .none .false [] .false, .mk (.some 99) (.slc 1 (.t 97) .none (.some (.t 98))
  .none) .none 105 .none .false [] .false, .mk (.some 100) (.mv (.t 3)) .none 106 .none .false [] .false, .mk (.some 101) (.call 44 [.t 96, .t 99, .t 100]) .none 107 .none .false []
  .false, .mk (.some 95) (.mv (.t 101)) .none 108 .none .false [] .false, .mk (.some 102) (.ext (.t 95) 0) .none 109 .none .false [] .false, .mk (.some 103) (.ext (.t 95) 1) .none
  110 .none .false [] .false, .mk (.some 10) (.mv (.t 102)) .none 111 .none .false [] .false]) (.seq (.seq (.reg 112 8 [.mk (.some 104) (.mv (.t 10)) .none 112 .none .false []
  .false, .mk (.some 105) (.len (.t 104)) .none 113 .none .false [] .false, .mk (.some 106) (.mv (.t 13)) .none 114 .none .false [] .false, .mk (.some 107) (.nilc (.t 106)) .none
  115 .none .false [] .false, .mk (.some 108) (.faddr 7 (.t 107)) .none 116 .none .false [] .false, .mk (.some 109) (.load 1 .false (.t 108)) .none 117 .none .false [] .false, .mk
  (.some 110) (.len (.t 109)) .none 118 .none .false [] .false, .mk (.some 111) (.bin .lss (.t 105) (.t 110)) .none 119 .none .false [] .false]) (.cond (.t 111) (.seq (.reg 120 3
  [.mk (.some 10) (.mv (.k (.slice .none 0 0))) .none 120 .none .false [] .false, .mk (.some 11) (.mv (.k (.slice .none 0 0))) .none 121 .none .false [] .false, .mk (.some 12) (.mv
  (.k (.int .i64 7))) .none 122 .none .false [] .false]) .ret) .skip)) (.seq (.reg 123 5 [.mk (.some 112) (.mv (.t 10)) .none 123 .none .false [] .false, .mk (.some 113) (.mv (.t
  11)) .none 124 .none .false [] .false, .mk (.some 10) (.mv (.t 112)) .none 125 .none .false [] .false, .mk (.some 11) (.mv (.t 113)) .none 126 .none .false [] .false, .mk (.some
  12) (.mv (.k (.int .i64 0))) .none 127 .none .false [] .false]) .ret)))))))
def rs27 : List IRes := [.tmp 10, .tmp 11, .tmp 12]
set_option maxRecDepth 100000 in
theorem comp27 : Comp Try.prog 27 ir27 rs27 114 := ⟨⟨_, _, 128, Try.func27, rfl, by kernel_rfl, by kernel_rfl, rfl⟩⟩
theorem body27 : HasBody Try.prog 27 := hasBody_of (by kernel_rfl)

def ir28 : IC :=
  .seq (.reg 0 2 [.mk (.some 0) (.alloc 32 [.int .i64 0, .slice .none 0 0, .int .i64 0, .int .i64 0]) .none 0 .none .false [] .false, .mk (.some 1) (.alloc 52 [.slice .none 0 0, .int
  .i64 0, .int .i64 0]) .none 1 .none .false [] .false]) (.seq (.reg 2 13 [.mk (.some 2) (.bld [(0, 1), (1, 1)] [.int .i64 0, .int .i64 0] [(0, .k (.int .i64 400)), (1, .k (.int
  .i64 500))]) .none 2 .none .false [] .false, .mk (.some 3) (.bsl 35 2 1 [.int .i64 0, .int .i64 0] [(0, .t 2)]) .none 3 .none .false [] .false, .mk (.some 4) (.bld [(0, 1), (1,
  1), (2, 1), (3, 1)] [.int .i64 0, .slice .none 0 0, .int .i64 0, .int .i64 0] [(0, .k (.int .i64 1000)), (1, .t 3), (2, .k (.int .i64 180)), (3, .k (.int .i64 60))]) .none 4 .none
  .false [] .false, .mk (.some 5) (.bld [(0, 1), (1, 1)] [.int .i64 0, .int .i64 0] [(1, .k (.int .i64 1))]) .none 5 .none .false [] .false, .mk (.some 6) (.bld [(0, 2), (2, 1)]
  [.int .i64 0, .int .i64 0, .int .i64 0] [(0, .t 5), (1, .k (.int .i64 60))]) .none 6 .none .false [] .false, .mk (.some 7) (.bld [(0, 1), (1, 1)] [.int .i64 0, .int .i64 0] [(0,
  .k (.int .i64 1)), (1, .k (.int .i64 2))]) .none 7 .none .false [] .false, .mk (.some 8) (.bld [(0, 2), (2, 1)] [.int .i64 0, .int .i64 0, .int .i64 0] [(0, .t 7)]) .none 8 .none
  .false [] .false, .mk (.some 9) (.bld [(0, 1), (1, 1)] [.int .i64 0, .int .i64 0] [(1, .k (.int .i64 1))]) .none 9 .none .false [] .false, .mk (.some 10) (.bld [(0, 2), (2, 1)]
  [.int .i64 0, .int .i64 0, .int .i64 0] [(0, .t 9), (1, .k (.int .i64 300))]) .none 10 .none .false [] .false, .mk (.some 11) (.bsl 99 3 3 [.int .i64 0, .int .i64 0, .int .i64 0,
  .int .i64 0, .int .i64 0, .int .i64 0, .int .i64 0, .int .i64 0, .int .i64 0] [(0, .t 6), (1, .t 8), (2, .t 10)]) .none 11 .none .false [] .false, .mk (.some 12) (.bld [(0, 1),
  (1, 1), (2, 1)] [.slice .none 0 0, .int .i64 0, .int .i64 0] [(1, .k (.int .i64 400)), (2, .k (.int .i64 30)), (0, .t 11)]) .none 12 .none .false [] .false, .mk .none (.store 4
  (.t 0) (.t 4)) .none 13 .none .false [] .false, .mk .none (.store 3 (.t 1) (.t 12)) .none 14 .none .false [] .false]) .ret)
def rs28 : List IRes := [.cell 0 4 .true, .cell 1 3 .true]
set_option maxRecDepth 100000 in
theorem comp28 : Comp Try.prog 28 ir28 rs28 13 := ⟨⟨_, _, 15, Try.func28, rfl, by kernel_rfl, by kernel_rfl, rfl⟩⟩
theorem body28 : HasBody Try.prog 28 := hasBody_of (by kernel_rfl)

def ir29 : IC :=
  .seq (.reg 0 1 [.mk (.some 4) (.mv (.k (.bool .false))) .none 0 .none .false [] .false]) (.seq (.seq (.reg 1 5 [.mk (.some 6) (.mv (.t 0)) .none 1 .none .false [] .false, .mk (.some
  7) (.len (.t 6)) .none 2 .none .false [] .false, .mk (.some 8) (.mv (.t 1)) .none 3 .none .false [] .false, .mk (.some 9) (.len (.t 8)) .none 4 .none .false [] .false, .mk (.some
  10) (.bin .neq (.t 7) (.t 9)) .none 5 .none .false [] .false]) (.cond (.t 10) (.seq (.reg 6 1 [.mk (.some 4) (.mv (.k (.bool .false))) .none 6 .none .false [] .false]) .ret)
  .skip)) (.seq (.seq (.reg 7 1 [.mk (.some 5) (.mv (.k (.int .i64 0))) .none 7 .none .false [] .false]) (.block 0 (.loop (.seq (.seq (.reg 8 4 [.mk (.some 11) (.mv (.t 5)) .none 8
  .none .false [] .false, .mk (.some 12) (.mv (.t 0)) .none 9 .none .false [] .false, .mk (.some 13) (.len (.t 12)) .none 10 .none .false [] .false, .mk (.some 14) (.bin .lss (.t
  11) (.t 13)) .none 11 .none .false [] .false]) (.cond (.t 14) .skip (.exit 0))) (.seq (.block 1 (.seq (.draw 12 9 [] [] [.mk (.some 17) (.mv (.t 0)) .none 12 (.some []) .true []
  .false, .mk (.some 18) (.mv (.t 5)) .none 13 (.some []) .true [] .false, .mk (.some 19) (.iaddr 1 (.t 17) (.t 18)) .none 14 (.some []) .true [] .false, .mk (.some 20) (.load 1
  .false (.t 19)) .none 15 (.some []) .true [] .false, .mk (.some 21) (.mv (.t 1)) .none 16 (.some []) .true [] .false, .mk (.some 22) (.mv (.t 5)) .none 17 (.some []) .true []
  .false, .mk (.some 23) (.iaddr 1 (.t 21) (.t 22)) .none 18 (.some []) .true [] .false, .mk (.some 24) (.load 1 .false (.t 23)) .none 19 (.some []) .true [] .false, .mk (.some 25)
  (.bin .neq (.t 20) (.t 24)) .none 20 (.some []) .true [] .false]) (.cond (.t 25) (.seq (.reg 21 1 [.mk (.some 4) (.mv (.k (.bool .false))) .none 21 .none .false [] .false]) .ret)
  .skip))) (.reg 22 3 [.mk (.some 15) (.mv (.t 5)) .none 22 .none .false [] .false, .mk (.some 16) (.bin .add (.t 15) (.k (.int .i64 1))) .none 23 .none .false [] .false, .mk (.some
  5) (.mv (.t 16)) .none 24 .none .false [] .false])))))) (.seq (.reg 25 1 [.mk (.some 4) (.mv (.k (.bool .true))) .none 25 .none .false [] .false]) .ret)))
def rs29 : List IRes := [.tmp 4]
set_option maxRecDepth 100000 in
theorem comp29 : Comp Try.prog 29 ir29 rs29 26 := ⟨⟨_, _, 26, Try.func29, rfl, by kernel_rfl, by kernel_rfl, rfl⟩⟩
theorem body29 : HasBody Try.prog 29 := hasBody_of (by kernel_rfl)

def ir30 : IC :=
  .seq (.reg 0 2 [.mk (.some 1) (.box 32 (.t 0)) .none 0 .none .false [] .false, .mk (.some 2) (.mv (.k (.int .i64 0))) .none 1 .none .false [] .false]) (.seq (.reg 2 7 [.mk (.some 6)
  (.load 4 .true (.t 1)) .none 2 .none .false [] .false, .mk (.some 7) (.call 35 [.t 6]) .none 3 .none .false [] .false, .mk (.some 5) (.mv (.t 7)) .none 4 .none .false [] .false,
  .mk (.some 8) (.ext (.t 5) 0) .none 5 .none .false [] .false, .mk (.some 9) (.ext (.t 5) 1) .none 6 .none .false [] .false, .mk (.some 3) (.mv (.t 8)) .none 7 .none .false []
  .false, .mk (.some 4) (.mv (.t 9)) .none 8 .none .false [] .false]) (.seq (.reg 9 2 [.mk (.some 10) (.mv (.t 4)) .none 9 .none .false [] .false, .mk (.some 2) (.mv (.t 10)) .none
  10 .none .false [] .false]) .ret))
def rs30 : List IRes := [.tmp 2]
set_option maxRecDepth 100000 in
theorem comp30 : Comp Try.prog 30 ir30 rs30 11 := ⟨⟨_, _, 11, Try.func30, rfl, by kernel_rfl, by kernel_rfl, rfl⟩⟩
theorem body30 : HasBody Try.prog 30 := hasBody_of (by kernel_rfl)

def ir31 : IC :=
  .seq (.reg 0 2 [.mk (.some 1) (.box 52 (.t 0)) .none 0 .none .false [] .false, .mk (.some 2) (.mv (.k (.int .i64 0))) .none 1 .none .false [] .false]) (.seq (.seq (.reg 2 3 [.mk
  (.some 3) (.load 3 .true (.t 1)) .none 2 .none .false [] .false, .mk (.some 4) (.call 49 [.t 3]) .none 3 .none .false [] .false, .mk (.some 5) (.un .not (.t 4)) .none 4 .none
  .false [] .false]) (.cond (.t 5) (.seq (.reg 5 1 [.mk (.some 2) (.mv (.k (.int .i64 1))) .none 5 .none .false [] .false]) .ret) .skip)) (.seq (.reg 6 1 [.mk (.some 2) (.mv (.k
  (.int .i64 0))) .none 6 .none .false [] .false]) .ret))
def rs31 : List IRes := [.tmp 2]
set_option maxRecDepth 100000 in
theorem comp31 : Comp Try.prog 31 ir31 rs31 6 := ⟨⟨_, _, 7, Try.func31, rfl, by kernel_rfl, by kernel_rfl, rfl⟩⟩
theorem body31 : HasBody Try.prog 31 := hasBody_of (by kernel_rfl)

def ir32 : IC :=
  .seq (.reg 0 2 [.mk (.some 1) (.box 24 (.t 0)) .none 0 .none .false [] .false, .mk (.some 2) (.mv (.k (.bool .false))) .none 1 .none .false [] .false]) (.seq (.reg 2 1 [.mk (.some
  3) (.mv (.k (.int .i64 (-1)))) .none 2 .none .false [] .false]) (.seq (.seq (.reg 3 1 [.mk (.some 4) (.mv (.k (.int .i64 0))) .none 3 .none .false [] .false]) (.block 0 (.loop
  (.seq (.seq (.reg 4 5 [.mk (.some 6) (.mv (.t 4)) .none 4 .none .false [] .false, .mk (.some 7) (.faddr 1 (.t 1)) .none 5 .none .false [] .false, .mk (.some 8) (.load 1 .false (.t
  7)) .none 6 .none .false [] .false, .mk (.some 9) (.len (.t 8)) .none 7 .none .false [] .false, .mk (.some 10) (.bin .lss (.t 6) (.t 9)) .none 8 .none .false [] .false]) (.cond
  (.t 10) .skip (.exit 0))) (.seq (.block 1 (.seq (.reg 9 7 [.mk (.some 13) (.faddr 1 (.t 1)) .none 9 .none .false [] .false, .mk (.some 14) (.load 1 .false (.t 13)) .none 10 .none
  .false [] .false, .mk (.some 15) (.mv (.t 4)) .none 11 .none .false [] .false, .mk (.some 16) (.iaddr 2 (.t 14) (.t 15)) .none 12 .none .false [] .false, .mk (.some 17) (.load 2
  .true (.t 16)) .none 13 .none .false [] .false, .mk (.some 5) (.alloc 41 [.int .i64 0, .int .i64 0]) .none 14 .none .false [] .false, .mk .none (.store 2 (.t 5) (.t 17)) .none 15
  .none .false [] .false]) (.seq (.seq (.reg 16 23 [.mk (.some 18) (.faddr 0 (.t 5)) .none 16 .none .false [] .false, .mk (.some 19) (.load 1 .false (.t 18)) .none 17 .none .false
  [] .false, .mk (.some 20) (.mv (.t 3)) .none 18 .none .false [] .false, .mk (.some 21) (.bin .leq (.t 19) (.t 20)) .none 19 .none .false [] .false, .mk (.some 22) (.mv (.t 21))
  .none 20 .none .false [] .false, .mk (.some 23) (.faddr 0 (.t 5)) (.some (22, .false)) 21 .none .false [] .false, .mk (.some 24) (.load 1 .false (.t 23)) (.some (22, .false)) 22
  .none .false [] .false, .mk (.some 25) (.bin .lss (.t 24) (.k (.int .i64 0))) (.some (22, .false)) 23 .none .false [] .false, .mk (.some 26) (.pick (.t 22) (.k (.bool .true)) (.t
  25)) .none 24 .none .false [] .false, .mk (.some 27) (.mv (.t 26)) .none 25 .none .false [] .false, .mk (.some 28) (.faddr 0 (.t 5)) (.some (27, .false)) 26 .none .false []
  .false, .mk (.some 29) (.load 1 .false (.t 28)) (.some (27, .false)) 27 .none .false [] .false, .mk (.some 30) (.faddr 1 (.t 5)) (.some (27, .false)) 28 .none .false [] .false,
  .mk (.some 31) (.load 1 .false (.t 30)) (.some (27, .false)) 29 .none .false [] .false, .mk (.some 32) (.bin .geq (.t 29) (.t 31)) (.some (27, .false)) 30 .none .false [] .false,
  .mk (.some 33) (.pick (.t 27) (.k (.bool .true)) (.t 32)) .none 31 .none .false [] .false, .mk (.some 34) (.mv (.t 33)) .none 32 .none .false [] .false, .mk (.some 35) (.faddr 1
  (.t 5)) (.some (34, .false)) 33 .none .false [] .false, .mk (.some 36) (.load 1 .false (.t 35)) (.some (34, .false)) 34 .none .false [] .false, .mk (.some 37) (.faddr 0 (.t 1))
  (.some (34, .false)) 35 .none .false [] .false, .mk (.some 38) (.load 1 .false (.t 37)) (.some (34, .false)) 36 .none .false [] .false, .mk (.some 39) (.bin .gtr (.t 36) (.t 38))
  (.some (34, .false)) 37 .none .false [] .false, .mk (.some 40) (.pick (.t 34) (.k (.bool .true)) (.t 39)) .none 38 .none .false [] .false]) (.cond (.t 40) (.seq (.reg 39 1 [.mk
  (.some 2) (.mv (.k (.bool .false))) .none 39 .none .false [] .false]) .ret) .skip)) (.reg 40 3 [.mk (.some 41) (.faddr 1 (.t 5)) .none 40 .none .false [] .false, .mk (.some 42)
  (.load 1 .false (.t 41)) .none 41 .none .false [] .false, .mk (.some 3) (.mv (.t 42)) .none 42 .none .false [] .false])))) (.reg 43 3 [.mk (.some 11) (.mv (.t 4)) .none 43 .none
  .false [] .false, .mk (.some 12) (.bin .add (.t 11) (.k (.int .i64 1))) .none 44 .none .false [] .false, .mk (.some 4) (.mv (.t 12)) .none 45 .none .false [] .false])))))) (.seq
  (.reg 46 16 [.mk (.some 43) (.faddr 0 (.t 1)) .none 46 .none .false [] .false, .mk (.some 44) (.load 1 .false (.t 43)) .none 47 .none .false [] .false, .mk (.some 45) (.call 36
  [.t 44, .k (.int .i64 1), .k (.int .i64 36000)]) .none 48 .none .false [] .false, .mk (.some 46) (.mv (.t 45)) .none 49 .none .false [] .false, .mk (.some 47) (.faddr 2 (.t 1))
  (.some (46, .true)) 50 .none .false [] .false, .mk (.some 48) (.load 1 .false (.t 47)) (.some (46, .true)) 51 .none .false [] .false, .mk (.some 49) (.call 36 [.t 48, .k (.int
  .i64 1), .k (.int .i64 1200)]) (.some (46, .true)) 52 .none .false [] .false, .mk (.some 50) (.pick (.t 46) (.t 49) (.k (.bool .false))) .none 53 .none .false [] .false, .mk
  (.some 51) (.mv (.t 50)) .none 54 .none .false [] .false, .mk (.some 52) (.faddr 3 (.t 1)) (.some (51, .true)) 55 .none .false [] .false, .mk (.some 53) (.load 1 .false (.t 52))
  (.some (51, .true)) 56 .none .false [] .false, .mk (.some 54) (.faddr 2 (.t 1)) (.some (51, .true)) 57 .none .false [] .false, .mk (.some 55) (.load 1 .false (.t 54)) (.some (51,
  .true)) 58 .none .false [] .false, .mk (.some 56) (.call 36 [.t 53, .k (.int .i64 1), .t 55]) (.some (51, .true)) 59 .none .false [] .false, .mk (.some 57) (.pick (.t 51) (.t 56)
  (.k (.bool .false))) .none 60 .none .false [] .false, .mk (.some 2) (.mv (.t 57)) .none 61 .none .false [] .false]) .ret)))
def rs32 : List IRes := [.tmp 2]
set_option maxRecDepth 100000 in
theorem comp32 : Comp Try.prog 32 ir32 rs32 58 := ⟨⟨_, _, 62, Try.func32, rfl, by kernel_rfl, by kernel_rfl, rfl⟩⟩
theorem body32 : HasBody Try.prog 32 := hasBody_of (by kernel_rfl)

def ir33 : IC :=
  .seq (.reg 0 2 [.mk (.some 1) (.box 24 (.t 0)) .none 0 .none .false [] .false, .mk (.some 2) (.mv (.k (.slice .none 0 0))) .none 1 .none .false [] .false]) (.seq (.reg 2 1 [.mk
  (.some 3) (.mv (.k (.slice .none 0 0))) .none 2 .none .false [] .false]) (.seq (.reg 3 3 [.mk (.some 9) (.load 4 .true (.t 1)) .none 3 .none .false [] .false, .mk (.some 10)
  (.call 50 [.t 9]) .none 4 .none .false [] .false, .mk (.some 4) (.mv (.t 10)) .none 5 .none .false [] .false]) (.seq (.seq (.reg 6 1 [.mk (.some 5) (.mv (.k (.int .i64 0))) .none
  6 .none .false [] .false]) (.block 0 (.loop (.seq (.seq (.reg 7 4 [.mk (.some 11) (.mv (.t 5)) .none 7 .none .false [] .false, .mk (.some 12) (.mv (.t 4)) .none 8 .none .false []
  .false, .mk (.some 13) (.len (.t 12)) .none 9 .none .false [] .false, .mk (.some 14) (.bin .lss (.t 11) (.t 13)) .none 10 .none .false [] .false]) (.cond (.t 14) .skip (.exit 0)))
  (.seq (.block 1 (.seq (.reg 11 7 [.mk (.some 17) (.mv (.t 4)) .none 11 .none .false [] .false, .mk (.some 18) (.mv (.t 5)) .none 12 .none .false [] .false, .mk (.some 19) (.iaddr
  2 (.t 17) (.t 18)) .none 13 .none .false [] .false, .mk (.some 20) (.faddr 0 (.t 19)) .none 14 .none .false [] .false, .mk (.some 21) (.load 1 .false (.t 20)) .none 15 .none
  .false [] .false, .mk (.some 6) (.mv (.t 21)) .none 16 .none .false [] .false, .mk (.some 7) (.mv (.k (.int .i64 0))) .none 17 .none .false [] .false]) (.seq (.block 2 (.loop
  (.seq (.seq (.draw 18 10 [] [] [.mk (.some 22) (.mv (.t 4)) .none 18 (.some []) .true [] .false, .mk (.some 23) (.mv (.t 5)) .none 19 (.some []) .true [] .false, .mk (.some 24)
  (.iaddr 2 (.t 22) (.t 23)) .none 20 (.some []) .true [] .false, .mk (.some 25) (.faddr 1 (.t 24)) .none 21 (.some []) .true [] .false, .mk (.some 26) (.load 1 .false (.t 25))
  .none 22 (.some []) .true [] .false, .mk (.some 27) (.mv (.t 6)) .none 23 (.some []) .true [] .false, .mk (.some 28) (.bin .sub (.t 26) (.t 27)) .none 24 (.some []) .true []
  .false, .mk (.some 29) (.faddr 2 (.t 1)) .none 25 (.some []) .true [] .false, .mk (.some 30) (.load 1 .false (.t 29)) .none 26 (.some []) .true [] .false, .mk (.some 31) (.bin
  .geq (.t 28) (.t 30)) .none 27 (.some []) .true [] .false]) (.cond (.t 31) .skip (.exit 2))) (.block 3 (.seq (.reg 28 10 [.mk (.some 32) (.mv (.t 3)) .none 28 .none .false []
  .false, .mk (.some 33) (.mv (.t 6)) .none 29 .none .false [] .false, .mk (.some 34) (.mv (.t 6)) .none 30 .none .false [] .false, .mk (.some 35) (.faddr 2 (.t 1)) .none 31 .none
  .false [] .false, .mk (.some 36) (.load 1 .false (.t 35)) .none 32 .none .false [] .false, .mk (.some 37) (.bin .add (.t 34) (.t 36)) .none 33 .none .false [] .false, .mk (.some
  38) (.bld [(0, 1), (1, 1)] [.int .i64 0, .int .i64 0] [(0, .t 33), (1, .t 37)]) .none 34 .none .false [] .false, .mk (.some 39) (.bsl 41 2 1 [.int .i64 0, .int .i64 0] [(0, .t
  38)]) .none 35 .none .false [] .false, .mk (.some 40) (.app 41 2 16 (.t 32) (.t 39)) .none 36 .none .false [] .false, .mk (.some 3) (.mv (.t 40)) .none 37 .none .false [] .false])
  (.seq (.reg 38 5 [.mk (.some 41) (.mv (.t 6)) .none 38 .none .false [] .false, .mk (.some 42) (.faddr 2 (.t 1)) .none 39 .none .false [] .false, .mk (.some 43) (.load 1 .false (.t
  42)) .none 40 .none .false [] .false, .mk (.some 44) (.bin .add (.t 41) (.t 43)) .none 41 .none .false [] .false, .mk (.some 6) (.mv (.t 44)) .none 42 .none .false [] .false])
  (.reg 43 3 [.mk (.some 45) (.mv (.t 7)) .none 43 .none .false [] .false, .mk (.some 46) (.bin .add (.t 45) (.k (.int .i64 1))) .none 44 .none .false [] .false, .mk (.some 7) (.mv
  (.t 46)) .none 45 .none .false [] .false]))))))) (.seq (.reg 46 8 [.mk (.some 47) (.mv (.t 4)) .none 46 .none .false [] .false, .mk (.some 48) (.mv (.t 5)) .none 47 .none .false
  [] .false, .mk (.some 49) (.iaddr 2 (.t 47) (.t 48)) .none 48 .none .false [] .false, .mk (.some 50) (.faddr 1 (.t 49)) .none 49 .none .false [] .false, .mk (.some 51) (.load 1
  .false (.t 50)) .none 50 .none .false [] .false, .mk (.some 52) (.mv (.t 6)) .none 51 .none .false [] .false, .mk (.some 53) (.bin .sub (.t 51) (.t 52)) .none 52 .none .false []
  .false, .mk (.some 8) (.mv (.t 53)) .none 53 .none .false [] .false]) (.seq (.reg 54 12 [.mk (.some 54) (.mv (.t 8)) .none 54 .none .false [] .false, .mk (.some 55) (.bin .gtr (.t
  54) (.k (.int .i64 0))) .none 55 .none .false [] .false, .mk (.some 56) (.mv (.t 55)) .none 56 .none .false [] .false, .mk (.some 57) (.mv (.t 8)) (.some (56, .true)) 57 .none
  .false [] .false, .mk (.some 58) (.faddr 3 (.t 1)) (.some (56, .true)) 58 .none .false [] .false, .mk (.some 59) (.load 1 .false (.t 58)) (.some (56, .true)) 59 .none .false []
  .false, .mk (.some 60) (.bin .geq (.t 57) (.t 59)) (.some (56, .true)) 60 .none .false [] .false, .mk (.some 61) (.mv (.t 60)) (.some (56, .true)) 61 .none .false [] .false, .mk
  (.some 62) (.mv (.t 7)) (.some (61, .false)) 62 .none .false [] .false, .mk (.some 63) (.bin .eql (.t 62) (.k (.int .i64 0))) (.some (61, .false)) 63 .none .false [] .false, .mk
  (.some 64) (.pick (.t 61) (.k (.bool .true)) (.t 63)) (.some (56, .true)) 64 .none .false [] .false, .mk (.some 65) (.pick (.t 56) (.t 64) (.k (.bool .false))) .none 65 .none
  .false [] .false]) (.cond (.t 65) (.reg 66 11 [.mk (.some 66) (.mv (.t 3)) .none 66 .none .false [] .false, .mk (.some 67) (.mv (.t 6)) .none 67 .none .false [] .false, .mk (.some
  68) (.mv (.t 4)) .none 68 .none .false [] .false, .mk (.some 69) (.mv (.t 5)) .none 69 .none .false [] .false, .mk (.some 70) (.iaddr 2 (.t 68) (.t 69)) .none 70 .none .false []
  .false, .mk (.some 71) (.faddr 1 (.t 70)) .none 71 .none .false [] .false, .mk (.some 72) (.load 1 .false (.t 71)) .none 72 .none .false [] .false, .mk (.some 73) (.bld [(0, 1),
  (1, 1)] [.int .i64 0, .int .i64 0] [(0, .t 67), (1, .t 72)]) .none 73 .none .false [] .false, .mk (.some 74) (.bsl 41 2 1 [.int .i64 0, .int .i64 0] [(0, .t 73)]) .none 74 .none
  .false [] .false, .mk (.some 75) (.app 41 2 16 (.t 66) (.t 74)) .none 75 .none .false [] .false, .mk (.some 3) (.mv (.t 75)) .none 76 .none .false [] .false]) (.seq (.reg 77 2
  [.mk (.some 76) (.mv (.t 8)) .none 77 .none .false [] .false, .mk (.some 77) (.bin .gtr (.t 76) (.k (.int .i64 0))) .none 78 .none .false [] .false]) (.cond (.t 77) (.reg 79 12
  [.mk (.some 78) (.mv (.t 3)) .none 79 .none .false [] .false, .mk (.some 79) (.mv (.t 3)) .none 80 .none .false [] .false, .mk (.some 80) (.len (.t 79)) .none 81 .none .false []
  .false, .mk (.some 81) (.bin .sub (.t 80) (.k (.int .i64 1))) .none 82 .none .false [] .false, .mk (.some 82) (.mv (.t 4)) .none 83 .none .false [] .false, .mk (.some 83) (.mv (.t
  5)) .none 84 .none .false [] .false, .mk (.some 84) (.iaddr 2 (.t 82) (.t 83)) .none 85 .none .false [] .false, .mk (.some 85) (.faddr 1 (.t 84)) .none 86 .none .false [] .false,
  .mk (.some 86) (.load 1 .false (.t 85)) .none 87 .none .false [] .false, .mk (.some 87) (.iaddr 2 (.t 78) (.t 81)) .none 88 .none .false [] .false, .mk (.some 88) (.faddr 1 (.t
  87)) .none 89 .none .false [] .false, .mk .none (.store 1 (.t 88) (.t 86)) .none 90 .none .false [] .false]) .skip)))))))) (.reg 91 3 [.mk (.some 15) (.mv (.t 5)) .none 91 .none
  .false [] .false, .mk (.some 16) (.bin .add (.t 15) (.k (.int .i64 1))) .none 92 .none .false [] .false, .mk (.some 5) (.mv (.t 16)) .none 93 .none .false [] .false])))))) (.seq
  (.reg 94 2 [.mk (.some 89) (.mv (.t 3)) .none 94 .none .false [] .false, .mk (.some 2) (.mv (.t 89)) .none 95 .none .false [] .false]) .ret))))
def rs33 : List IRes := [.tmp 2]
set_option maxRecDepth 100000 in
theorem comp33 : Comp Try.prog 33 ir33 rs33 90 := ⟨⟨_, _, 96, Try.func33, rfl, by kernel_rfl, by kernel_rfl, rfl⟩⟩
theorem body33 : HasBody Try.prog 33 := hasBody_of (by kernel_rfl)

def ir34 : IC :=
  .seq (.reg 0 1 [.mk (.some 4) (.mv (.k (.bool .false))) .none 0 .none .false [] .false]) (.seq (.seq (.reg 1 5 [.mk (.some 6) (.mv (.t 0)) .none 1 .none .false [] .false, .mk (.some
  7) (.len (.t 6)) .none 2 .none .false [] .false, .mk (.some 8) (.mv (.t 1)) .none 3 .none .false [] .false, .mk (.some 9) (.len (.t 8)) .none 4 .none .false [] .false, .mk (.some
  10) (.bin .neq (.t 7) (.t 9)) .none 5 .none .false [] .false]) (.cond (.t 10) (.seq (.reg 6 1 [.mk (.some 4) (.mv (.k (.bool .false))) .none 6 .none .false [] .false]) .ret)
  .skip)) (.seq (.seq (.reg 7 1 [.mk (.some 5) (.mv (.k (.int .i64 0))) .none 7 .none .false [] .false]) (.block 0 (.loop (.seq (.seq (.reg 8 4 [.mk (.some 11) (.mv (.t 5)) .none 8
  .none .false [] .false, .mk (.some 12) (.mv (.t 0)) .none 9 .none .false [] .false, .mk (.some 13) (.len (.t 12)) .none 10 .none .false [] .false, .mk (.some 14) (.bin .lss (.t
  11) (.t 13)) .none 11 .none .false [] .false]) (.cond (.t 14) .skip (.exit 0))) (.seq (.block 1 (.seq (.draw 12 24 [] [] [.mk (.some 17) (.mv (.t 0)) .none 12 (.some []) .true []
  .false, .mk (.some 18) (.mv (.t 5)) .none 13 (.some []) .true [] .false, .mk (.some 19) (.iaddr 2 (.t 17) (.t 18)) .none 14 (.some []) .true [] .false, .mk (.some 20) (.faddr 0
  (.t 19)) .none 15 (.some []) .true [] .false, .mk (.some 21) (.load 1 .false (.t 20)) .none 16 (.some []) .true [] .false, .mk (.some 22) (.mv (.t 1)) .none 17 (.some []) .true []
  .false, .mk (.some 23) (.mv (.t 5)) .none 18 (.some []) .true [] .false, .mk (.some 24) (.iaddr 2 (.t 22) (.t 23)) .none 19 (.some []) .true [] .false, .mk (.some 25) (.faddr 0
  (.t 24)) .none 20 (.some []) .true [] .false, .mk (.some 26) (.load 1 .false (.t 25)) .none 21 (.some []) .true [] .false, .mk (.some 27) (.bin .neq (.t 21) (.t 26)) .none 22
  (.some []) .true [] .false, .mk (.some 28) (.mv (.t 27)) .none 23 (.some []) .true [] .false, .mk (.some 29) (.mv (.t 0)) (.some (28, .false)) 24 (.some []) .true [] .false, .mk
  (.some 30) (.mv (.t 5)) (.some (28, .false)) 25 (.some []) .true [] .false, .mk (.some 31) (.iaddr 2 (.t 29) (.t 30)) (.some (28, .false)) 26 (.some []) .true [] .false, .mk
  (.some 32) (.faddr 1 (.t 31)) (.some (28, .false)) 27 (.some []) .true [] .false, .mk (.some 33) (.load 1 .false (.t 32)) (.some (28, .false)) 28 (.some []) .true [] .false, .mk
  (.some 34) (.mv (.t 1)) (.some (28, .false)) 29 (.some []) .true [] .false, .mk (.some 35) (.mv (.t 5)) (.some (28, .false)) 30 (.some []) .true [] .false, .mk (.some 36) (.iaddr
  2 (.t 34) (.t 35)) (.some (28, .false)) 31 (.some []) .true [] .false, .mk (.some 37) (.faddr 1 (.t 36)) (.some (28, .false)) 32 (.some []) .true [] .false, .mk (.some 38) (.load
  1 .false (.t 37)) (.some (28, .false)) 33 (.some []) .true [] .false, .mk (.some 39) (.bin .neq (.t 33) (.t 38)) (.some (28, .false)) 34 (.some []) .true [] .false, .mk (.some 40)
  (.pick (.t 28) (.k (.bool .true)) (.t 39)) .none 35 (.some []) .true [] .false]) (.cond (.t 40) (.seq (.reg 36 1 [.mk (.some 4) (.mv (.k (.bool .false))) .none 36 .none .false []
  .false]) .ret) .skip))) (.reg 37 3 [.mk (.some 15) (.mv (.t 5)) .none 37 .none .false [] .false, .mk (.some 16) (.bin .add (.t 15) (.k (.int .i64 1))) .none 38 .none .false []
  .false, .mk (.some 5) (.mv (.t 16)) .none 39 .none .false [] .false])))))) (.seq (.reg 40 1 [.mk (.some 4) (.mv (.k (.bool .true))) .none 40 .none .false [] .false]) .ret)))
def rs34 : List IRes := [.tmp 4]
set_option maxRecDepth 100000 in
theorem comp34 : Comp Try.prog 34 ir34 rs34 41 := ⟨⟨_, _, 41, Try.func34, rfl, by kernel_rfl, by kernel_rfl, rfl⟩⟩
theorem body34 : HasBody Try.prog 34 := hasBody_of (by kernel_rfl)

def ir35 : IC :=
  .seq (.reg 0 3 [.mk (.some 1) (.box 32 (.t 0)) .none 0 .none .false [] .false, .mk (.some 2) (.mv (.k (.slice .none 0 0))) .none 1 .none .false [] .false, .mk (.some 3) (.mv (.k
  (.int .i64 0))) .none 2 .none .false [] .false]) (.seq (.seq (.reg 3 3 [.mk (.some 5) (.load 4 .true (.t 1)) .none 3 .none .false [] .false, .mk (.some 6) (.call 51 [.t 5]) .none
  4 .none .false [] .false, .mk (.some 7) (.un .not (.t 6)) .none 5 .none .false [] .false]) (.cond (.t 7) (.seq (.reg 6 2 [.mk (.some 2) (.mv (.k (.slice .none 0 0))) .none 6 .none
  .false [] .false, .mk (.some 3) (.mv (.k (.int .i64 1))) .none 7 .none .false [] .false]) .ret) .skip)) (.seq (.reg 8 3 [.mk (.some 8) (.load 4 .true (.t 1)) .none 8 .none .false
  [] .false, .mk (.some 9) (.call 52 [.t 8]) .none 9 .none .false [] .false, .mk (.some 4) (.mv (.t 9)) .none 10 .none .false [] .false]) (.seq (.seq (.reg 11 3 [.mk (.some 10) (.mv
  (.t 4)) .none 11 .none .false [] .false, .mk (.some 11) (.len (.t 10)) .none 12 .none .false [] .false, .mk (.some 12) (.bin .gtr (.t 11) (.k (.int .i64 40))) .none 13 .none
  .false [] .false]) (.cond (.t 12) (.seq (.reg 14 2 [.mk (.some 2) (.mv (.k (.slice .none 0 0))) .none 14 .none .false [] .false, .mk (.some 3) (.mv (.k (.int .i64 3))) .none 15
  .none .false [] .false]) .ret) .skip)) (.seq (.reg 16 3 [.mk (.some 13) (.mv (.t 4)) .none 16 .none .false [] .false, .mk (.some 2) (.mv (.t 13)) .none 17 .none .false [] .false,
  .mk (.some 3) (.mv (.k (.int .i64 0))) .none 18 .none .false [] .false]) .ret))))
def rs35 : List IRes := [.tmp 2, .tmp 3]
set_option maxRecDepth 100000 in
theorem comp35 : Comp Try.prog 35 ir35 rs35 14 := ⟨⟨_, _, 19, Try.func35, rfl, by kernel_rfl, by kernel_rfl, rfl⟩⟩
theorem body35 : HasBody Try.prog 35 := hasBody_of (by kernel_rfl)

def ir36 : IC :=
  .seq (.reg 0 1 [.mk (.some 6) (.mv (.k (.bool .false))) .none 0 .none .false [] .false]) (.seq (.reg 1 9 [.mk (.some 7) (.mv (.t 0)) .none 1 .none .false [] .false, .mk (.some 8)
  (.mv (.t 1)) .none 2 .none .false [] .false, .mk (.some 9) (.bin .geq (.t 7) (.t 8)) .none 3 .none .false [] .false, .mk (.some 10) (.mv (.t 9)) .none 4 .none .false [] .false,
  .mk (.some 11) (.mv (.t 0)) (.some (10, .true)) 5 .none .false [] .false, .mk (.some 12) (.mv (.t 2)) (.some (10, .true)) 6 .none .false [] .false, .mk (.some 13) (.bin .leq (.t
  11) (.t 12)) (.some (10, .true)) 7 .none .false [] .false, .mk (.some 14) (.pick (.t 10) (.t 13) (.k (.bool .false))) .none 8 .none .false [] .false, .mk (.some 6) (.mv (.t 14))
  .none 9 .none .false [] .false]) .ret)
def rs36 : List IRes := [.tmp 6]
set_option maxRecDepth 100000 in
theorem comp36 : Comp Try.prog 36 ir36 rs36 15 := ⟨⟨_, _, 10, Try.func36, rfl, by kernel_rfl, by kernel_rfl, rfl⟩⟩
theorem body36 : HasBody Try.prog 36 := hasBody_of (by kernel_rfl)

def ir37 : IC :=
  .seq (.reg 0 1 [.mk (.some 6) (.mv (.k (.bool .false))) .none 0 .none .false [] .false]) (.seq (.reg 1 9 [.mk (.some 7) (.mv (.t 1)) .none 1 .none .false [] .false, .mk (.some 8)
  (.mv (.t 0)) .none 2 .none .false [] .false, .mk (.some 9) (.bin .leq (.t 7) (.t 8)) .none 3 .none .false [] .false, .mk (.some 10) (.mv (.t 9)) .none 4 .none .false [] .false,
  .mk (.some 11) (.mv (.t 0)) (.some (10, .true)) 5 .none .false [] .false, .mk (.some 12) (.mv (.t 2)) (.some (10, .true)) 6 .none .false [] .false, .mk (.some 13) (.bin .leq (.t
  11) (.t 12)) (.some (10, .true)) 7 .none .false [] .false, .mk (.some 14) (.pick (.t 10) (.t 13) (.k (.bool .false))) .none 8 .none .false [] .false, .mk (.some 6) (.mv (.t 14))
  .none 9 .none .false [] .false]) .ret)
def rs37 : List IRes := [.tmp 6]
set_option maxRecDepth 100000 in
theorem comp37 : Comp Try.prog 37 ir37 rs37 15 := ⟨⟨_, _, 10, Try.func37, rfl, by kernel_rfl, by kernel_rfl, rfl⟩⟩
theorem body37 : HasBody Try.prog 37 := hasBody_of (by kernel_rfl)

def ir38 : IC :=
  .seq (.reg 1 1 [.mk (.some 4) (.mv (.k (.int .i64 0))) .none 1 .none .false [] .false]) (.seq (.seq (.reg 2 3 [.mk (.some 6) (.mv (.t 0)) .none 2 .none .false [] .false, .mk (.some
  7) (.len (.t 6)) .none 3 .none .false [] .false, .mk (.some 8) (.mv (.k (.int .i64 0))) .none 4 .none .false [] .false]) (.block 0 (.loop (.seq (.reg 5 1 [.mk (.some 9) (.bin .lss
  (.t 8) (.t 7)) .none 5 .none .false [] .false]) (.seq (.cond (.t 9) .skip (.exit 0)) (.seq (.block 1 (.seq (.reg 6 2 [.mk (.some 10) (.mv (.t 8)) .none 6 .none .false [] .false,
  .mk (.some 5) (.mv (.t 10)) .none 7 .none .false [] .false]) (.seq (.reg 8 6 [.mk (.some 11) (.mv (.t 1)) .none 8 .none .false [] .false, .mk (.some 12) (.mv (.t 0)) .none 9 .none
  .false [] .false, .mk (.some 13) (.mv (.t 5)) .none 10 .none .false [] .false, .mk (.some 14) (.iaddr 2 (.t 12) (.t 13)) .none 11 .none .false [] .false, .mk (.some 15) (.load 2
  .true (.t 14)) .none 12 .none .false [] .false, .mk (.some 16) (.callv (.t 11) [.t 15]) .none 13 .none .false [] .false]) (.cond (.t 16) (.seq (.reg 14 2 [.mk (.some 17) (.mv (.t
  5)) .none 14 .none .false [] .false, .mk (.some 4) (.mv (.t 17)) .none 15 .none .false [] .false]) .ret) .skip)))) (.reg 16 2 [.mk (.some 18) (.bin .add (.t 8) (.k (.int .i64 1)))
  .none 16 .none .false [] .false, .mk (.some 8) (.mv (.t 18)) .none 17 .none .false [] .false]))))))) (.seq (.reg 18 1 [.mk (.some 4) (.mv (.k (.int .i64 (-1)))) .none 18 .none
  .false [] .false]) .ret))
def rs38 : List IRes := [.tmp 4]
set_option maxRecDepth 100000 in
theorem comp38 : CompAt Try.prog 38 1 ir38 rs38 19 := ⟨⟨_, _, 19, Try.func38, rfl, by kernel_rfl, by kernel_rfl, rfl⟩⟩
theorem body38 : HasBody Try.prog 38 := hasBody_of (by kernel_rfl)

def ir39 : IC :=
  .seq (.reg 1 2 [.mk (.some 2) (.box 35 (.t 0)) .none 1 .none .false [] .false, .mk (.some 3) (.mv (.k (.bool .false))) .none 2 .none .false [] .false]) (.seq (.reg 3 4 [.mk (.some
  4) (.load 2 .true (.t 2)) .none 3 .none .false [] .false, .mk (.some 5) (.load 1 .false (.t 1)) .none 4 .none .false [] .false, .mk (.some 6) (.call 40 [.t 4, .t 5]) .none 5 .none
  .false [] .false, .mk (.some 3) (.mv (.t 6)) .none 6 .none .false [] .false]) .ret)
def rs39 : List IRes := [.tmp 3]
set_option maxRecDepth 100000 in
theorem comp39 : CompAt Try.prog 39 1 ir39 rs39 7 := ⟨⟨_, _, 7, Try.func39, rfl, by kernel_rfl, by kernel_rfl, rfl⟩⟩
theorem body39 : HasBody Try.prog 39 := hasBody_of (by kernel_rfl)

def ir40 : IC :=
  .seq (.reg 0 2 [.mk (.some 2) (.box 35 (.t 0)) .none 0 .none .false [] .false, .mk (.some 4) (.mv (.k (.bool .false))) .none 1 .none .false [] .false]) (.seq (.reg 2 11 [.mk (.some
  5) (.faddr 0 (.t 2)) .none 2 .none .false [] .false, .mk (.some 6) (.load 1 .false (.t 5)) .none 3 .none .false [] .false, .mk (.some 7) (.mv (.t 1)) .none 4 .none .false []
  .false, .mk (.some 8) (.bin .leq (.t 6) (.t 7)) .none 5 .none .false [] .false, .mk (.some 9) (.mv (.t 8)) .none 6 .none .false [] .false, .mk (.some 10) (.mv (.t 1)) (.some (9,
  .true)) 7 .none .false [] .false, .mk (.some 11) (.faddr 1 (.t 2)) (.some (9, .true)) 8 .none .false [] .false, .mk (.some 12) (.load 1 .false (.t 11)) (.some (9, .true)) 9 .none
  .false [] .false, .mk (.some 13) (.bin .lss (.t 10) (.t 12)) (.some (9, .true)) 10 .none .false [] .false, .mk (.some 14) (.pick (.t 9) (.t 13) (.k (.bool .false))) .none 11 .none
  .false [] .false, .mk (.some 4) (.mv (.t 14)) .none 12 .none .false [] .false]) .ret)
def rs40 : List IRes := [.tmp 4]
set_option maxRecDepth 100000 in
theorem comp40 : Comp Try.prog 40 ir40 rs40 15 := ⟨⟨_, _, 13, Try.func40, rfl, by kernel_rfl, by kernel_rfl, rfl⟩⟩
theorem body40 : HasBody Try.prog 40 := hasBody_of (by kernel_rfl)

def ir41 : IC :=
  .seq (.reg 0 3 [.mk (.some 2) (.box 24 (.t 0)) .none 0 .none .false [] .false, .mk (.some 3) (.box 45 (.t 1)) .none 1 .none .false [] .false, .mk (.some 4) (.mv (.k (.bool .false)))
  .none 2 .none .false [] .false]) (.seq (.reg 3 11 [.mk (.some 5) (.faddr 1 (.t 2)) .none 3 .none .false [] .false, .mk (.some 6) (.load 1 .false (.t 5)) .none 4 .none .false []
  .false, .mk (.some 7) (.len (.t 6)) .none 5 .none .false [] .false, .mk (.some 8) (.bin .leq (.t 7) (.k (.int .i64 60))) .none 6 .none .false [] .false, .mk (.some 9) (.mv (.t 8))
  .none 7 .none .false [] .false, .mk (.some 10) (.faddr 0 (.t 3)) (.some (9, .true)) 8 .none .false [] .false, .mk (.some 11) (.load 1 .false (.t 10)) (.some (9, .true)) 9 .none
  .false [] .false, .mk (.some 12) (.len (.t 11)) (.some (9, .true)) 10 .none .false [] .false, .mk (.some 13) (.bin .leq (.t 12) (.k (.int .i64 8))) (.some (9, .true)) 11 .none
  .false [] .false, .mk (.some 14) (.pick (.t 9) (.t 13) (.k (.bool .false))) .none 12 .none .false [] .false, .mk (.some 4) (.mv (.t 14)) .none 13 .none .false [] .false]) .ret)
def rs41 : List IRes := [.tmp 4]
set_option maxRecDepth 100000 in
theorem comp41 : Comp Try.prog 41 ir41 rs41 15 := ⟨⟨_, _, 14, Try.func41, rfl, by kernel_rfl, by kernel_rfl, rfl⟩⟩
theorem body41 : HasBody Try.prog 41 := hasBody_of (by kernel_rfl)

def ir42 : IC :=
  .seq (.reg 0 3 [.mk (.some 2) (.box 24 (.t 0)) .none 0 .none .false [] .false, .mk (.some 3) (.box 45 (.t 1)) .none 1 .none .false [] .false, .mk (.some 4) (.mv (.k (.int .i64 0)))
  .none 2 .none .false [] .false]) (.seq (.seq (.reg 3 3 [.mk (.some 6) (.load 4 .true (.t 2)) .none 3 .none .false [] .false, .mk (.some 7) (.call 10 [.t 6]) .none 4 .none .false
  [] .false, .mk (.some 5) (.mv (.t 7)) .none 5 .none .false [] .false]) (.seq (.reg 6 2 [.mk (.some 8) (.mv (.t 5)) .none 6 .none .false [] .false, .mk (.some 9) (.bin .neq (.t 8)
  (.k (.int .i64 0))) .none 7 .none .false [] .false]) (.cond (.t 9) (.seq (.reg 8 2 [.mk (.some 10) (.mv (.t 5)) .none 8 .none .false [] .false, .mk (.some 4) (.mv (.t 10)) .none 9
  .none .false [] .false]) .ret) .skip))) (.seq (.seq (.reg 10 3 [.mk (.some 11) (.load 3 .true (.t 3)) .none 10 .none .false [] .false, .mk (.some 12) (.call 23 [.t 11]) .none 11
  .none .false [] .false, .mk (.some 13) (.un .not (.t 12)) .none 12 .none .false [] .false]) (.cond (.t 13) (.seq (.reg 13 1 [.mk (.some 4) (.mv (.k (.int .i64 1))) .none 13 .none
  .false [] .false]) .ret) .skip)) (.seq (.reg 14 1 [.mk (.some 4) (.mv (.k (.int .i64 0))) .none 14 .none .false [] .false]) .ret)))
def rs42 : List IRes := [.tmp 4]
set_option maxRecDepth 100000 in
theorem comp42 : Comp Try.prog 42 ir42 rs42 14 := ⟨⟨_, _, 15, Try.func42, rfl, by kernel_rfl, by kernel_rfl, rfl⟩⟩
theorem body42 : HasBody Try.prog 42 := hasBody_of (by kernel_rfl)

def ir43 : IC :=
  .seq (.reg 0 4 [.mk (.some 2) (.box 32 (.t 0)) .none 0 .none .false [] .false, .mk (.some 3) (.box 52 (.t 1)) .none 1 .none .false [] .false, .mk (.some 4) (.mv (.k (.pointer
  .none))) .none 2 .none .false [] .false, .mk (.some 5) (.mv (.k (.int .i64 0))) .none 3 .none .false [] .false]) (.seq (.reg 4 7 [.mk (.some 9) (.load 4 .true (.t 2)) .none 4
  .none .false [] .false, .mk (.some 10) (.call 35 [.t 9]) .none 5 .none .false [] .false, .mk (.some 8) (.mv (.t 10)) .none 6 .none .false [] .false, .mk (.some 11) (.ext (.t 8) 0)
  .none 7 .none .false [] .false, .mk (.some 12) (.ext (.t 8) 1) .none 8 .none .false [] .false, .mk (.some 6) (.mv (.t 11)) .none 9 .none .false [] .false, .mk (.some 7) (.mv (.t
  12)) .none 10 .none .false [] .false]) (.seq (.block 0 (.seq (.reg 11 3 [.mk (.some 14) (.mv (.t 7)) .none 11 .none .false [] .false, .mk (.some 15) (.bin .neq (.t 14) (.k (.int
  .i64 0))) .none 12 .none .false [] .false, .mk (.some 13) (.mv (.t 15)) .none 13 .none .false [] .false]) (.cond (.t 13) (.seq (.reg 14 3 [.mk (.some 16) (.mv (.t 7)) .none 14
  .none .false [] .false, .mk (.some 4) (.mv (.k (.pointer .none))) .none 15 .none .false [] .false, .mk (.some 5) (.mv (.t 16)) .none 16 .none .false [] .false]) .ret) (.seq (.reg
  17 4 [.mk (.some 18) (.load 3 .true (.t 3)) .none 17 .none .false [] .false, .mk (.some 19) (.call 49 [.t 18]) .none 18 .none .false [] .false, .mk (.some 20) (.un .not (.t 19))
  .none 19 .none .false [] .false, .mk (.some 17) (.mv (.t 20)) .none 20 .none .false [] .false]) (.cond (.t 17) (.seq (.reg 21 2 [.mk (.some 4) (.mv (.k (.pointer .none))) .none 21
  .none .false [] .false, .mk (.some 5) (.mv (.k (.int .i64 1))) .none 22 .none .false [] .false]) .ret) .skip))))) (.seq (.reg 23 7 [.mk (.some 21) (.load 4 .true (.t 2)) .none 23
  .none .false [] .false, .mk (.some 22) (.load 3 .true (.t 3)) .none 24 .none .false [] .false, .mk (.some 23) (.mv (.t 6)) .none 25 .none .false [] .false, .mk (.some 24) (.bld
  [(0, 4), (4, 3), (7, 1)] [.int .i64 0, .slice .none 0 0, .int .i64 0, .int .i64 0, .slice .none 0 0, .int .i64 0, .int .i64 0, .slice .none 0 0] [(0, .t 21), (1, .t 22), (2, .t
  23)]) .none 26 .none .false [] .false, .mk (.some 25) (.box 96 (.t 24)) .none 27 .none .false [] .false, .mk (.some 4) (.mv (.t 25)) .none 28 .none .false [] .false, .mk (.some 5)
  (.mv (.k (.int .i64 0))) .none 29 .none .false [] .false]) .ret)))
def rs43 : List IRes := [.tmp 4, .tmp 5]
set_option maxRecDepth 100000 in
theorem comp43 : Comp Try.prog 43 ir43 rs43 26 := ⟨⟨_, _, 30, Try.func43, rfl, by kernel_rfl, by kernel_rfl, rfl⟩⟩
theorem body43 : HasBody Try.prog 43 := hasBody_of (by kernel_rfl)

def ir44 : IC :=
  .seq (.reg 0 4 [.mk (.some 3) (.box 90 (.t 0)) .none 0 .none .false [] .false, .mk (.some 5) (.box 3 (.t 2)) .none 1 .none .false [] .false, .mk (.some 6) (.mv (.k (.slice .none 0
  0))) .none 2 .none .false [] .false, .mk (.some 7) (.alloc 3 [.int .i64 0]) .none 3 .none .false [] .false]) (.seq (.reg 4 3 [.mk (.some 11) .mkm .none 4 .none .false [] .false,
  .mk (.some 8) (.alloc 104 [.map .none]) .none 5 .none .false [] .false, .mk .none (.store 1 (.t 8) (.t 11)) .none 6 .none .false [] .false]) (.seq (.reg 7 4 [.mk (.some 12) (.load
  1 .false (.t 3)) .none 7 .none .false [] .false, .mk (.some 13) (.mkf 53 [.t 12] []) .none 8 .none .false [] .false, .mk (.some 9) (.alloc 105 [.nilFunc]) .none 9 .none .false []
  .false, .mk .none (.store 1 (.t 9) (.t 13)) .none 10 .none .false [] .false]) (.seq (.reg 11 1 [.mk (.some 10) (.alloc 106 [.nilFunc]) .none 11 .none .false [] .false]) (.seq
  (.reg 12 2 [.mk (.some 14) (.mkf 54 [] [.t 7, .t 3, .t 8, .t 5, .t 9, .t 10]) .none 12 .none .false [] .false, .mk .none (.store 1 (.t 10) (.t 14)) .none 13 .none .false []
  .false]) (.seq (.draw 14 7 [1] [] [.mk (.some 15) (.load 1 .false (.t 10)) .none 14 (.some []) .true [] .false, .mk (.some 16) (.mv (.t 1)) .none 15 (.some []) .true [] .false,
  .mk (.some 17) (.call 57 [.t 16]) .none 16 (.some []) .true [] .false, .mk (.some 18) (.mv (.t 1)) .none 17 (.some []) .true [] .false, .mk (.some 19) (.call 56 [.t 18]) .none 18
  (.some [16]) .false [] .false, .mk (.some 20) (.callv (.t 15) [.t 17, .t 19]) .none 19 (.some [18, 16]) .false [] .false, .mk (.some 6) (.mv (.t 20)) .none 20 (.some [16, 18, 19])
  .true [] .false]) (.seq (.draw 21 4 [] [] [.mk (.some 21) (.mv (.t 6)) .none 21 (.some []) .true [] .false, .mk (.some 22) (.load 1 .false (.t 7)) .none 22 (.some []) .true []
  .false, .mk (.some 6) (.mv (.t 21)) .none 23 (.some []) .true [] .false, .mk .none (.store 1 (.t 7) (.t 22)) .none 24 (.some []) .true [] .false]) .ret))))))
def rs44 : List IRes := [.tmp 6, .cell 7 1 .false]
set_option maxRecDepth 100000 in
theorem comp44 : Comp Try.prog 44 ir44 rs44 23 := ⟨⟨_, _, 25, Try.func44, rfl, by kernel_rfl, by kernel_rfl, rfl⟩⟩
theorem body44 : HasBody Try.prog 44 := hasBody_of (by kernel_rfl)

def ir45 : IC :=
  .seq (.reg 0 2 [.mk (.some 2) (.box 90 (.t 0)) .none 0 .none .false [] .false, .mk (.some 4) (.mv (.k (.bool .false))) .none 1 .none .false [] .false]) (.seq (.reg 2 14 [.mk (.some
  5) (.mv (.t 1)) .none 2 .none .false [] .false, .mk (.some 6) (.len (.t 5)) .none 3 .none .false [] .false, .mk (.some 7) (.load 1 .false (.t 2)) .none 4 .none .false [] .false,
  .mk (.some 8) (.nilc (.t 7)) .none 5 .none .false [] .false, .mk (.some 9) (.faddr 7 (.t 8)) .none 6 .none .false [] .false, .mk (.some 10) (.load 1 .false (.t 9)) .none 7 .none
  .false [] .false, .mk (.some 11) (.len (.t 10)) .none 8 .none .false [] .false, .mk (.some 12) (.bin .eql (.t 6) (.t 11)) .none 9 .none .false [] .false, .mk (.some 13) (.mv (.t
  12)) .none 10 .none .false [] .false, .mk (.some 14) (.mv (.t 1)) (.some (13, .true)) 11 .none .false [] .false, .mk (.some 15) (.mkf 59 [] [.t 2]) (.some (13, .true)) 12 .none
  .false [] .false, .mk (.some 16) (.call 58 [.t 14, .t 15]) (.some (13, .true)) 13 .none .false [] .false, .mk (.some 17) (.pick (.t 13) (.t 16) (.k (.bool .false))) .none 14 .none
  .false [] .false, .mk (.some 4) (.mv (.t 17)) .none 15 .none .false [] .false]) .ret)
def rs45 : List IRes := [.tmp 4]
set_option maxRecDepth 100000 in
theorem comp45 : Comp Try.prog 45 ir45 rs45 18 := ⟨⟨_, _, 16, Try.func45, rfl, by kernel_rfl, by kernel_rfl, rfl⟩⟩
theorem body45 : HasBody Try.prog 45 := hasBody_of (by kernel_rfl)

def ir46 : IC :=
  .seq (.reg 0 1 [.mk (.some 4) (.mv (.k (.bool .false))) .none 0 .none .false [] .false]) (.seq (.reg 1 3 [.mk (.some 8) (.call 57 [.k (.slice .none 0 0)]) .none 1 .none .false []
  .false, .mk (.some 5) (.alloc 110 [.int .i64 0, .int .i64 0, .int .i64 0, .int .i64 0, .int .i64 0, .int .i64 0]) .none 2 .none .false [] .false, .mk .none (.store 6 (.t 5) (.t
  8)) .none 3 .none .false [] .false]) (.seq (.seq (.reg 4 3 [.mk (.some 9) (.mv (.t 1)) .none 4 .none .false [] .false, .mk (.some 10) (.len (.t 9)) .none 5 .none .false [] .false,
  .mk (.some 11) (.mv (.k (.int .i64 0))) .none 6 .none .false [] .false]) (.block 0 (.loop (.seq (.reg 7 1 [.mk (.some 12) (.bin .lss (.t 11) (.t 10)) .none 7 .none .false []
  .false]) (.seq (.cond (.t 12) .skip (.exit 0)) (.seq (.block 1 (.seq (.reg 8 3 [.mk (.some 13) (.iaddr 1 (.t 9) (.t 11)) .none 8 .none .false [] .false, .mk (.some 14) (.load 1
  .false (.t 13)) .none 9 .none .false [] .false, .mk (.some 7) (.mv (.t 14)) .none 10 .none .false [] .false]) (.seq (.seq (.reg 11 5 [.mk (.some 15) (.mv (.t 0)) .none 11 .none
  .false [] .false, .mk (.some 16) (.load 6 .true (.t 5)) .none 12 .none .false [] .false, .mk (.some 17) (.mv (.t 7)) .none 13 .none .false [] .false, .mk (.some 18) (.call 53 [.t
  15, .t 16, .t 17]) .none 14 .none .false [] .false, .mk (.some 19) (.un .not (.t 18)) .none 15 .none .false [] .false]) (.cond (.t 19) (.seq (.reg 16 1 [.mk (.some 4) (.mv (.k
  (.bool .false))) .none 16 .none .false [] .false]) .ret) .skip)) (.reg 17 4 [.mk (.some 20) (.load 6 .true (.t 5)) .none 17 .none .false [] .false, .mk (.some 21) (.mv (.t 7))
  .none 18 .none .false [] .false, .mk (.some 22) (.call 55 [.t 20, .t 21]) .none 19 .none .false [] .false, .mk .none (.store 6 (.t 5) (.t 22)) .none 20 .none .false [] .false]))))
  (.reg 21 2 [.mk (.some 23) (.bin .add (.t 11) (.k (.int .i64 1))) .none 21 .none .false [] .false, .mk (.some 11) (.mv (.t 23)) .none 22 .none .false [] .false]))))))) (.seq (.reg
  23 1 [.mk (.some 4) (.mv (.k (.bool .true))) .none 23 .none .false [] .false]) .ret)))
def rs46 : List IRes := [.tmp 4]
set_option maxRecDepth 100000 in
theorem comp46 : Comp Try.prog 46 ir46 rs46 24 := ⟨⟨_, _, 24, Try.func46, rfl, by kernel_rfl, by kernel_rfl, rfl⟩⟩
theorem body46 : HasBody Try.prog 46 := hasBody_of (by kernel_rfl)

def ir47 : IC :=
  .seq (.reg 0 3 [.mk (.some 2) (.box 35 (.t 0)) .none 0 .none .false [] .false, .mk (.some 3) (.box 71 (.t 1)) .none 1 .none .false [] .false, .mk (.some 4) (.mv (.k (.int .i64 0)))
  .none 2 .none .false [] .false]) (.seq (.draw 3 12 [2] [] [.mk (.some 5) (.faddr 1 (.t 2)) .none 3 (.some []) .true [] .false, .mk (.some 6) (.load 1 .false (.t 5)) .none 4 (.some
  []) .true [] .false, .mk (.some 7) (.load 2 .true (.t 2)) .none 5 (.some []) .true [] .false, .mk (.some 8) (.call 61 [.t 7]) .none 6 (.some []) .true [] .false, .mk (.some 9)
  (.faddr 0 (.t 3)) .none 7 (.some []) .true [] .false, .mk (.some 10) (.load 1 .false (.t 9)) .none 8 (.some []) .true [] .false, .mk (.some 11) (.bin .mul (.t 8) (.t 10)) .none 9
  (.some [6]) .true [] .false, .mk (.some 12) (.faddr 1 (.t 3)) .none 10 (.some []) .true [] .false, .mk (.some 13) (.load 1 .false (.t 12)) .none 11 (.some []) .true [] .false, .mk
  (.some 14) (.bslp 3 1 3 [.int .i64 0, .int .i64 0, .int .i64 0] [(0, .t 6), (1, .t 11), (2, .t 13)]) .none 12 (.some [6]) .false [] .false, .mk (.some 15) (.call 60 [.t 14]) .none
  13 (.some [6, 12]) .false [] .false, .mk (.some 4) (.mv (.t 15)) .none 14 (.some [12, 6, 13]) .true [] .false]) .ret)
def rs47 : List IRes := [.tmp 4]
set_option maxRecDepth 100000 in
theorem comp47 : Comp Try.prog 47 ir47 rs47 16 := ⟨⟨_, _, 15, Try.func47, rfl, by kernel_rfl, by kernel_rfl, rfl⟩⟩
theorem body47 : HasBody Try.prog 47 := hasBody_of (by kernel_rfl)

def ir48 : IC :=
  .seq (.reg 0 1 [.mk (.some 6) (.mv (.k (.int .i64 0))) .none 0 .none .false [] .false]) (.seq (.draw 1 25 [0] [] [.mk (.some 7) (.mv (.t 0)) .none 1 (.some []) .true [] .false, .mk
  (.some 8) (.nilc (.t 7)) .none 2 (.some []) .true [] .false, .mk (.some 9) (.faddr 7 (.t 8)) .none 3 (.some []) .true [] .false, .mk (.some 10) (.load 1 .false (.t 9)) .none 4
  (.some []) .true [] .false, .mk (.some 11) (.mv (.t 1)) .none 5 (.some []) .true [] .false, .mk (.some 12) (.iaddr 2 (.t 10) (.t 11)) .none 6 (.some []) .true [] .false, .mk
  (.some 13) (.load 2 .true (.t 12)) .none 7 (.some []) .true [] .false, .mk (.some 14) (.mv (.t 0)) .none 8 (.some []) .true [] .false, .mk (.some 15) (.nilc (.t 14)) .none 9
  (.some []) .true [] .false, .mk (.some 16) (.faddr 4 (.t 15)) .none 10 (.some []) .true [] .false, .mk (.some 17) (.faddr 0 (.t 16)) .none 11 (.some []) .true [] .false, .mk
  (.some 18) (.load 1 .false (.t 17)) .none 12 (.some []) .true [] .false, .mk (.some 19) (.mv (.t 2)) .none 13 (.some []) .true [] .false, .mk (.some 20) (.iaddr 3 (.t 18) (.t 19))
  .none 14 (.some []) .true [] .false, .mk (.some 21) (.faddr 0 (.t 20)) .none 15 (.some []) .true [] .false, .mk (.some 22) (.faddr 1 (.t 21)) .none 16 (.some []) .true [] .false,
  .mk (.some 23) (.load 1 .false (.t 22)) .none 17 (.some []) .true [] .false, .mk (.some 24) (.mv (.t 0)) .none 18 (.some []) .true [] .false, .mk (.some 25) (.nilc (.t 24)) .none
  19 (.some []) .true [] .false, .mk (.some 26) (.faddr 4 (.t 25)) .none 20 (.some []) .true [] .false, .mk (.some 27) (.faddr 2 (.t 26)) .none 21 (.some []) .true [] .false, .mk
  (.some 28) (.load 1 .false (.t 27)) .none 22 (.some []) .true [] .false, .mk (.some 29) (.bld [(0, 1), (1, 1)] [.int .i64 0, .int .i64 0] [(0, .t 23), (1, .t 28)]) .none 23 (.some
  []) .true [] .false, .mk (.some 30) (.call 47 [.t 13, .t 29]) .none 24 (.some []) .true [] .false, .mk (.some 6) (.mv (.t 30)) .none 25 (.some [24]) .true [] .false]) .ret)
def rs48 : List IRes := [.tmp 6]
set_option maxRecDepth 100000 in
theorem comp48 : Comp Try.prog 48 ir48 rs48 31 := ⟨⟨_, _, 26, Try.func48, rfl, by kernel_rfl, by kernel_rfl, rfl⟩⟩
theorem body48 : HasBody Try.prog 48 := hasBody_of (by kernel_rfl)

def ir49 : IC :=
  .seq (.reg 0 2 [.mk (.some 1) (.box 52 (.t 0)) .none 0 .none .false [] .false, .mk (.some 2) (.mv (.k (.bool .false))) .none 1 .none .false [] .false]) (.seq (.reg 2 20 [.mk (.some
  3) (.faddr 0 (.t 1)) .none 2 .none .false [] .false, .mk (.some 4) (.load 1 .false (.t 3)) .none 3 .none .false [] .false, .mk (.some 5) (.len (.t 4)) .none 4 .none .false []
  .false, .mk (.some 6) (.call 37 [.t 5, .k (.int .i64 1), .k (.int .i64 5)]) .none 5 .none .false [] .false, .mk (.some 7) (.mv (.t 6)) .none 6 .none .false [] .false, .mk (.some
  8) (.faddr 0 (.t 1)) (.some (7, .true)) 7 .none .false [] .false, .mk (.some 9) (.load 1 .false (.t 8)) (.some (7, .true)) 8 .none .false [] .false, .mk (.some 10) (.call 62 [.t
  9, .f 63]) (.some (7, .true)) 9 .none .false [] .false, .mk (.some 11) (.pick (.t 7) (.t 10) (.k (.bool .false))) .none 10 .none .false [] .false, .mk (.some 12) (.mv (.t 11))
  .none 11 .none .false [] .false, .mk (.some 13) (.faddr 1 (.t 1)) (.some (12, .true)) 12 .none .false [] .false, .mk (.some 14) (.load 1 .false (.t 13)) (.some (12, .true)) 13
  .none .false [] .false, .mk (.some 15) (.call 37 [.t 14, .k (.int .i64 0), .k (.int .i64 36000)]) (.some (12, .true)) 14 .none .false [] .false, .mk (.some 16) (.pick (.t 12) (.t
  15) (.k (.bool .false))) .none 15 .none .false [] .false, .mk (.some 17) (.mv (.t 16)) .none 16 .none .false [] .false, .mk (.some 18) (.faddr 2 (.t 1)) (.some (17, .true)) 17
  .none .false [] .false, .mk (.some 19) (.load 1 .false (.t 18)) (.some (17, .true)) 18 .none .false [] .false, .mk (.some 20) (.call 37 [.t 19, .k (.int .i64 0), .k (.int .i64
  36000)]) (.some (17, .true)) 19 .none .false [] .false, .mk (.some 21) (.pick (.t 17) (.t 20) (.k (.bool .false))) .none 20 .none .false [] .false, .mk (.some 2) (.mv (.t 21))
  .none 21 .none .false [] .false]) .ret)
def rs49 : List IRes := [.tmp 2]
set_option maxRecDepth 100000 in
theorem comp49 : Comp Try.prog 49 ir49 rs49 22 := ⟨⟨_, _, 22, Try.func49, rfl, by kernel_rfl, by kernel_rfl, rfl⟩⟩
theorem body49 : HasBody Try.prog 49 := hasBody_of (by kernel_rfl)

def ir50 : IC :=
  .seq (.reg 0 2 [.mk (.some 1) (.box 24 (.t 0)) .none 0 .none .false [] .false, .mk (.some 2) (.mv (.k (.slice .none 0 0))) .none 1 .none .false [] .false]) (.seq (.reg 2 1 [.mk
  (.some 3) (.mv (.k (.slice .none 0 0))) .none 2 .none .false [] .false]) (.seq (.reg 3 1 [.mk (.some 4) (.mv (.k (.int .i64 0))) .none 3 .none .false [] .false]) (.seq (.seq (.reg
  4 1 [.mk (.some 5) (.mv (.k (.int .i64 0))) .none 4 .none .false [] .false]) (.block 0 (.loop (.seq (.seq (.reg 5 5 [.mk (.some 6) (.mv (.t 5)) .none 5 .none .false [] .false, .mk
  (.some 7) (.faddr 1 (.t 1)) .none 6 .none .false [] .false, .mk (.some 8) (.load 1 .false (.t 7)) .none 7 .none .false [] .false, .mk (.some 9) (.len (.t 8)) .none 8 .none .false
  [] .false, .mk (.some 10) (.bin .lss (.t 6) (.t 9)) .none 9 .none .false [] .false]) (.cond (.t 10) .skip (.exit 0))) (.seq (.block 1 (.seq (.seq (.reg 10 8 [.mk (.some 13)
  (.faddr 1 (.t 1)) .none 10 .none .false [] .false, .mk (.some 14) (.load 1 .false (.t 13)) .none 11 .none .false [] .false, .mk (.some 15) (.mv (.t 5)) .none 12 .none .false []
  .false, .mk (.some 16) (.iaddr 2 (.t 14) (.t 15)) .none 13 .none .false [] .false, .mk (.some 17) (.faddr 0 (.t 16)) .none 14 .none .false [] .false, .mk (.some 18) (.load 1
  .false (.t 17)) .none 15 .none .false [] .false, .mk (.some 19) (.mv (.t 4)) .none 16 .none .false [] .false, .mk (.some 20) (.bin .gtr (.t 18) (.t 19)) .none 17 .none .false []
  .false]) (.cond (.t 20) (.reg 18 12 [.mk (.some 21) (.mv (.t 3)) .none 18 .none .false [] .false, .mk (.some 22) (.mv (.t 4)) .none 19 .none .false [] .false, .mk (.some 23)
  (.faddr 1 (.t 1)) .none 20 .none .false [] .false, .mk (.some 24) (.load 1 .false (.t 23)) .none 21 .none .false [] .false, .mk (.some 25) (.mv (.t 5)) .none 22 .none .false []
  .false, .mk (.some 26) (.iaddr 2 (.t 24) (.t 25)) .none 23 .none .false [] .false, .mk (.some 27) (.faddr 0 (.t 26)) .none 24 .none .false [] .false, .mk (.some 28) (.load 1
  .false (.t 27)) .none 25 .none .false [] .false, .mk (.some 29) (.bld [(0, 1), (1, 1)] [.int .i64 0, .int .i64 0] [(0, .t 22), (1, .t 28)]) .none 26 .none .false [] .false, .mk
  (.some 30) (.bsl 41 2 1 [.int .i64 0, .int .i64 0] [(0, .t 29)]) .none 27 .none .false [] .false, .mk (.some 31) (.app 41 2 16 (.t 21) (.t 30)) .none 28 .none .false [] .false,
  .mk (.some 3) (.mv (.t 31)) .none 29 .none .false [] .false]) .skip)) (.reg 30 7 [.mk (.some 32) (.faddr 1 (.t 1)) .none 30 .none .false [] .false, .mk (.some 33) (.load 1 .false
  (.t 32)) .none 31 .none .false [] .false, .mk (.some 34) (.mv (.t 5)) .none 32 .none .false [] .false, .mk (.some 35) (.iaddr 2 (.t 33) (.t 34)) .none 33 .none .false [] .false,
  .mk (.some 36) (.faddr 1 (.t 35)) .none 34 .none .false [] .false, .mk (.some 37) (.load 1 .false (.t 36)) .none 35 .none .false [] .false, .mk (.some 4) (.mv (.t 37)) .none 36
  .none .false [] .false]))) (.reg 37 3 [.mk (.some 11) (.mv (.t 5)) .none 37 .none .false [] .false, .mk (.some 12) (.bin .add (.t 11) (.k (.int .i64 1))) .none 38 .none .false []
  .false, .mk (.some 5) (.mv (.t 12)) .none 39 .none .false [] .false])))))) (.seq (.seq (.reg 40 4 [.mk (.some 38) (.mv (.t 4)) .none 40 .none .false [] .false, .mk (.some 39)
  (.faddr 0 (.t 1)) .none 41 .none .false [] .false, .mk (.some 40) (.load 1 .false (.t 39)) .none 42 .none .false [] .false, .mk (.some 41) (.bin .lss (.t 38) (.t 40)) .none 43
  .none .false [] .false]) (.cond (.t 41) (.reg 44 8 [.mk (.some 42) (.mv (.t 3)) .none 44 .none .false [] .false, .mk (.some 43) (.mv (.t 4)) .none 45 .none .false [] .false, .mk
  (.some 44) (.faddr 0 (.t 1)) .none 46 .none .false [] .false, .mk (.some 45) (.load 1 .false (.t 44)) .none 47 .none .false [] .false, .mk (.some 46) (.bld [(0, 1), (1, 1)] [.int
  .i64 0, .int .i64 0] [(0, .t 43), (1, .t 45)]) .none 48 .none .false [] .false, .mk (.some 47) (.bsl 41 2 1 [.int .i64 0, .int .i64 0] [(0, .t 46)]) .none 49 .none .false []
  .false, .mk (.some 48) (.app 41 2 16 (.t 42) (.t 47)) .none 50 .none .false [] .false, .mk (.some 3) (.mv (.t 48)) .none 51 .none .false [] .false]) .skip)) (.seq (.reg 52 2 [.mk
  (.some 49) (.mv (.t 3)) .none 52 .none .false [] .false, .mk (.some 2) (.mv (.t 49)) .none 53 .none .false [] .false]) .ret)))))
def rs50 : List IRes := [.tmp 2]
set_option maxRecDepth 100000 in
theorem comp50 : Comp Try.prog 50 ir50 rs50 50 := ⟨⟨_, _, 54, Try.func50, rfl, by kernel_rfl, by kernel_rfl, rfl⟩⟩
theorem body50 : HasBody Try.prog 50 := hasBody_of (by kernel_rfl)

def ir51 : IC :=
  .seq (.reg 0 2 [.mk (.some 1) (.box 32 (.t 0)) .none 0 .none .false [] .false, .mk (.some 2) (.mv (.k (.bool .false))) .none 1 .none .false [] .false]) (.seq (.reg 2 2 [.mk (.some
  3) (.mv (.k (.int .i64 (-1)))) .none 2 .none .false [] .false, .mk (.some 4) (.mv (.k (.bool .true))) .none 3 .none .false [] .false]) (.seq .skip (.seq (.seq (.reg 4 4 [.mk
  (.some 7) (.faddr 1 (.t 1)) .none 4 .none .false [] .false, .mk (.some 8) (.load 1 .false (.t 7)) .none 5 .none .false [] .false, .mk (.some 9) (.len (.t 8)) .none 6 .none .false
  [] .false, .mk (.some 10) (.mv (.k (.int .i64 0))) .none 7 .none .false [] .false]) (.block 0 (.loop (.seq (.reg 8 1 [.mk (.some 11) (.bin .lss (.t 10) (.t 9)) .none 8 .none
  .false [] .false]) (.seq (.cond (.t 11) .skip (.exit 0)) (.seq (.block 1 (.seq (.reg 9 4 [.mk (.some 12) (.iaddr 2 (.t 8) (.t 10)) .none 9 .none .false [] .false, .mk (.some 13)
  (.load 2 .true (.t 12)) .none 10 .none .false [] .false, .mk (.some 6) (.alloc 35 [.int .i64 0, .int .i64 0]) .none 11 .none .false [] .false, .mk .none (.store 2 (.t 6) (.t 13))
  .none 12 .none .false [] .false]) (.seq (.seq (.reg 13 16 [.mk (.some 14) (.faddr 0 (.t 6)) .none 13 .none .false [] .false, .mk (.some 15) (.load 1 .false (.t 14)) .none 14 .none
  .false [] .false, .mk (.some 16) (.mv (.t 3)) .none 15 .none .false [] .false, .mk (.some 17) (.bin .leq (.t 15) (.t 16)) .none 16 .none .false [] .false, .mk (.some 18) (.mv (.t
  17)) .none 17 .none .false [] .false, .mk (.some 19) (.load 2 .true (.t 6)) (.some (18, .false)) 18 .none .false [] .false, .mk (.some 20) (.call 61 [.t 19]) (.some (18, .false))
  19 .none .false [] .false, .mk (.some 21) (.bin .leq (.t 20) (.k (.int .i64 0))) (.some (18, .false)) 20 .none .false [] .false, .mk (.some 22) (.pick (.t 18) (.k (.bool .true))
  (.t 21)) .none 21 .none .false [] .false, .mk (.some 23) (.mv (.t 22)) .none 22 .none .false [] .false, .mk (.some 24) (.faddr 1 (.t 6)) (.some (23, .false)) 23 .none .false []
  .false, .mk (.some 25) (.load 1 .false (.t 24)) (.some (23, .false)) 24 .none .false [] .false, .mk (.some 26) (.faddr 0 (.t 1)) (.some (23, .false)) 25 .none .false [] .false,
  .mk (.some 27) (.load 1 .false (.t 26)) (.some (23, .false)) 26 .none .false [] .false, .mk (.some 28) (.bin .gtr (.t 25) (.t 27)) (.some (23, .false)) 27 .none .false [] .false,
  .mk (.some 29) (.pick (.t 23) (.k (.bool .true)) (.t 28)) .none 28 .none .false [] .false]) (.cond (.t 29) (.seq (.reg 29 1 [.mk (.some 4) (.mv (.k (.bool .false))) .none 29 .none
  .false [] .false]) (.exit 0)) .skip)) (.reg 30 3 [.mk (.some 30) (.faddr 1 (.t 6)) .none 30 .none .false [] .false, .mk (.some 31) (.load 1 .false (.t 30)) .none 31 .none .false
  [] .false, .mk (.some 3) (.mv (.t 31)) .none 32 .none .false [] .false])))) (.reg 33 2 [.mk (.some 32) (.bin .add (.t 10) (.k (.int .i64 1))) .none 33 .none .false [] .false, .mk
  (.some 10) (.mv (.t 32)) .none 34 .none .false [] .false]))))))) (.seq (.reg 35 19 [.mk (.some 33) (.mv (.t 4)) .none 35 .none .false [] .false, .mk (.some 34) (.mv (.t 33)) .none
  36 .none .false [] .false, .mk (.some 35) (.faddr 0 (.t 1)) (.some (34, .true)) 37 .none .false [] .false, .mk (.some 36) (.load 1 .false (.t 35)) (.some (34, .true)) 38 .none
  .false [] .false, .mk (.some 37) (.call 37 [.t 36, .k (.int .i64 1), .k (.int .i64 36000)]) (.some (34, .true)) 39 .none .false [] .false, .mk (.some 38) (.pick (.t 34) (.t 37)
  (.k (.bool .false))) .none 40 .none .false [] .false, .mk (.some 39) (.mv (.t 38)) .none 41 .none .false [] .false, .mk (.some 40) (.faddr 2 (.t 1)) (.some (39, .true)) 42 .none
  .false [] .false, .mk (.some 41) (.load 1 .false (.t 40)) (.some (39, .true)) 43 .none .false [] .false, .mk (.some 42) (.call 37 [.t 41, .k (.int .i64 1), .k (.int .i64 1200)])
  (.some (39, .true)) 44 .none .false [] .false, .mk (.some 43) (.pick (.t 39) (.t 42) (.k (.bool .false))) .none 45 .none .false [] .false, .mk (.some 44) (.mv (.t 43)) .none 46
  .none .false [] .false, .mk (.some 45) (.faddr 3 (.t 1)) (.some (44, .true)) 47 .none .false [] .false, .mk (.some 46) (.load 1 .false (.t 45)) (.some (44, .true)) 48 .none .false
  [] .false, .mk (.some 47) (.faddr 2 (.t 1)) (.some (44, .true)) 49 .none .false [] .false, .mk (.some 48) (.load 1 .false (.t 47)) (.some (44, .true)) 50 .none .false [] .false,
  .mk (.some 49) (.call 37 [.t 46, .k (.int .i64 1), .t 48]) (.some (44, .true)) 51 .none .false [] .false, .mk (.some 50) (.pick (.t 44) (.t 49) (.k (.bool .false))) .none 52 .none
  .false [] .false, .mk (.some 2) (.mv (.t 50)) .none 53 .none .false [] .false]) .ret))))
def rs51 : List IRes := [.tmp 2]
set_option maxRecDepth 100000 in
theorem comp51 : Comp Try.prog 51 ir51 rs51 51 := ⟨⟨_, _, 54, Try.func51, rfl, by kernel_rfl, by kernel_rfl, rfl⟩⟩
theorem body51 : HasBody Try.prog 51 := hasBody_of (by kernel_rfl)

def ir52 : IC :=
  .seq (.reg 0 2 [.mk (.some 1) (.box 32 (.t 0)) .none 0 .none .false [] .false, .mk (.some 2) (.alloc 27 [.slice .none 0 0]) .none 1 .none .false [] .false]) (.seq (.seq (.reg 2 2
  [.mk (.some 7) (.load 4 .true (.t 1)) .none 2 .none .false [] .false, .mk (.some 8) (.call 64 [.t 7]) .none 3 .none .false [] .false]) (.block 0 (.range (.t 8) [9] (.reg 4 2 [.mk
  (.some 3) (.alloc 35 [.int .i64 0, .int .i64 0]) .none 4 .none .false [] .false, .mk .none (.store 2 (.t 3) (.t 9)) .none 5 .none .false [] .false]) (.block 1 (.seq (.draw 6 6 [3]
  [] [.mk (.some 10) (.load 2 .true (.t 3)) .none 6 (.some []) .true [] .false, .mk (.some 11) (.call 61 [.t 10]) .none 7 (.some []) .true [] .false, .mk (.some 12) (.faddr 2 (.t
  1)) .none 8 (.some []) .true [] .false, .mk (.some 13) (.load 1 .false (.t 12)) .none 9 (.some []) .true [] .false, .mk (.some 14) (.bin .quo (.t 11) (.t 13)) .none 10 (.some [7])
  .true [] .false, .mk (.some 4) (.mv (.t 14)) .none 11 (.some [7]) .true [] .false]) (.seq (.seq (.reg 12 2 [.mk (.some 15) (.mv (.t 4)) .none 12 .none .false [] .false, .mk (.some
  16) (.mv (.k (.int .i64 0))) .none 13 .none .false [] .false]) (.block 2 (.loop (.seq (.reg 14 1 [.mk (.some 17) (.bin .lss (.t 16) (.t 15)) .none 14 .none .false [] .false])
  (.seq (.cond (.t 17) .skip (.exit 2)) (.seq (.block 3 (.seq (.reg 15 2 [.mk (.some 18) (.mv (.t 16)) .none 15 .none .false [] .false, .mk (.some 5) (.mv (.t 18)) .none 16 .none
  .false [] .false]) (.reg 17 20 [.mk (.some 19) (.load 1 .false (.t 2)) .none 17 .none .false [] .false, .mk (.some 20) (.faddr 0 (.t 3)) .none 18 .none .false [] .false, .mk
  (.some 21) (.load 1 .false (.t 20)) .none 19 .none .false [] .false, .mk (.some 22) (.mv (.t 5)) .none 20 .none .false [] .false, .mk (.some 23) (.faddr 2 (.t 1)) .none 21 .none
  .false [] .false, .mk (.some 24) (.load 1 .false (.t 23)) .none 22 .none .false [] .false, .mk (.some 25) (.bin .mul (.t 22) (.t 24)) .none 23 .none .false [] .false, .mk (.some
  26) (.bin .add (.t 21) (.t 25)) .none 24 .none .false [] .false, .mk (.some 27) (.faddr 0 (.t 3)) .none 25 .none .false [] .false, .mk (.some 28) (.load 1 .false (.t 27)) .none 26
  .none .false [] .false, .mk (.some 29) (.mv (.t 5)) .none 27 .none .false [] .false, .mk (.some 30) (.bin .add (.t 29) (.k (.int .i64 1))) .none 28 .none .false [] .false, .mk
  (.some 31) (.faddr 2 (.t 1)) .none 29 .none .false [] .false, .mk (.some 32) (.load 1 .false (.t 31)) .none 30 .none .false [] .false, .mk (.some 33) (.bin .mul (.t 30) (.t 32))
  .none 31 .none .false [] .false, .mk (.some 34) (.bin .add (.t 28) (.t 33)) .none 32 .none .false [] .false, .mk (.some 35) (.bld [(0, 1), (1, 1)] [.int .i64 0, .int .i64 0] [(0,
  .t 26), (1, .t 34)]) .none 33 .none .false [] .false, .mk (.some 36) (.bsl 35 2 1 [.int .i64 0, .int .i64 0] [(0, .t 35)]) .none 34 .none .false [] .false, .mk (.some 37) (.app 35
  2 16 (.t 19) (.t 36)) .none 35 .none .false [] .false, .mk .none (.store 1 (.t 2) (.t 37)) .none 36 .none .false [] .false]))) (.reg 37 2 [.mk (.some 38) (.bin .add (.t 16) (.k
  (.int .i64 1))) .none 37 .none .false [] .false, .mk (.some 16) (.mv (.t 38)) .none 38 .none .false [] .false]))))))) (.seq (.reg 39 12 [.mk (.some 39) (.faddr 0 (.t 3)) .none 39
  .none .false [] .false, .mk (.some 40) (.load 1 .false (.t 39)) .none 40 .none .false [] .false, .mk (.some 41) (.mv (.t 4)) .none 41 .none .false [] .false, .mk (.some 42)
  (.faddr 2 (.t 1)) .none 42 .none .false [] .false, .mk (.some 43) (.load 1 .false (.t 42)) .none 43 .none .false [] .false, .mk (.some 44) (.bin .mul (.t 41) (.t 43)) .none 44
  .none .false [] .false, .mk (.some 45) (.bin .add (.t 40) (.t 44)) .none 45 .none .false [] .false, .mk (.some 46) (.faddr 1 (.t 3)) .none 46 .none .false [] .false, .mk (.some
  47) (.load 1 .false (.t 46)) .none 47 .none .false [] .false, .mk (.some 48) (.bld [(0, 1), (1, 1)] [.int .i64 0, .int .i64 0] [(0, .t 45), (1, .t 47)]) .none 48 .none .false []
  .false, .mk (.some 6) (.alloc 35 [.int .i64 0, .int .i64 0]) .none 49 .none .false [] .false, .mk .none (.store 2 (.t 6) (.t 48)) .none 50 .none .false [] .false]) (.block 4 (.seq
  (.reg 51 4 [.mk (.some 58) (.load 2 .true (.t 6)) .none 51 .none .false [] .false, .mk (.some 59) (.call 61 [.t 58]) .none 52 .none .false [] .false, .mk (.some 60) (.bin .eql (.t
  59) (.k (.int .i64 0))) .none 53 .none .false [] .false, .mk (.some 57) (.mv (.t 60)) .none 54 .none .false [] .false]) (.cond (.t 57) .skip (.seq (.draw 55 10 [6] [] [.mk (.some
  62) (.load 2 .true (.t 6)) .none 55 (.some []) .true [] .false, .mk (.some 63) (.call 61 [.t 62]) .none 56 (.some []) .true [] .false, .mk (.some 64) (.faddr 3 (.t 1)) .none 57
  (.some []) .true [] .false, .mk (.some 65) (.load 1 .false (.t 64)) .none 58 (.some []) .true [] .false, .mk (.some 66) (.bin .geq (.t 63) (.t 65)) .none 59 (.some [56]) .true []
  .false, .mk (.some 67) (.mv (.t 66)) .none 60 (.some [56]) .true [] .false, .mk (.some 68) (.mv (.t 4)) (.some (67, .false)) 61 (.some [56]) .true [] .false, .mk (.some 69) (.bin
  .eql (.t 68) (.k (.int .i64 0))) (.some (67, .false)) 62 (.some [56]) .true [] .false, .mk (.some 70) (.pick (.t 67) (.k (.bool .true)) (.t 69)) .none 63 (.some [56]) .true []
  .false, .mk (.some 61) (.mv (.t 70)) .none 64 (.some [56]) .true [] .false]) (.cond (.t 61) (.reg 65 5 [.mk (.some 71) (.load 1 .false (.t 2)) .none 65 .none .false [] .false, .mk
  (.some 72) (.load 2 .true (.t 6)) .none 66 .none .false [] .false, .mk (.some 73) (.bsl 35 2 1 [.int .i64 0, .int .i64 0] [(0, .t 72)]) .none 67 .none .false [] .false, .mk (.some
  74) (.app 35 2 16 (.t 71) (.t 73)) .none 68 .none .false [] .false, .mk .none (.store 1 (.t 2) (.t 74)) .none 69 .none .false [] .false]) (.reg 70 9 [.mk (.some 49) (.load 1
  .false (.t 2)) .none 70 .none .false [] .false, .mk (.some 50) (.load 1 .false (.t 2)) .none 71 .none .false [] .false, .mk (.some 51) (.len (.t 50)) .none 72 .none .false []
  .false, .mk (.some 52) (.bin .sub (.t 51) (.k (.int .i64 1))) .none 73 .none .false [] .false, .mk (.some 53) (.faddr 1 (.t 3)) .none 74 .none .false [] .false, .mk (.some 54)
  (.load 1 .false (.t 53)) .none 75 .none .false [] .false, .mk (.some 55) (.iaddr 2 (.t 49) (.t 52)) .none 76 .none .false [] .false, .mk (.some 56) (.faddr 1 (.t 55)) .none 77
  .none .false [] .false, .mk .none (.store 1 (.t 56) (.t 54)) .none 78 .none .false [] .false]))))))))))))) (.seq (.reg 79 2 [.mk (.some 75) (.load 1 .false (.t 2)) .none 79 .none
  .false [] .false, .mk .none (.store 1 (.t 2) (.t 75)) .none 80 .none .false [] .false]) .ret))
def rs52 : List IRes := [.cell 2 1 .false]
set_option maxRecDepth 100000 in
theorem comp52 : Comp Try.prog 52 ir52 rs52 76 := ⟨⟨_, _, 81, Try.func52, rfl, by kernel_rfl, by kernel_rfl, rfl⟩⟩
theorem body52 : HasBody Try.prog 52 := hasBody_of (by kernel_rfl)

def ir53 : IC :=
  .seq (.reg 0 2 [.mk (.some 4) (.box 110 (.t 1)) .none 0 .none .false [] .false, .mk (.some 6) (.mv (.k (.bool .false))) .none 1 .none .false [] .false]) (.seq (.seq (.draw 2 21 [2,
  4, 0] [] [.mk (.some 8) (.mv (.t 0)) .none 2 (.some []) .true [] .false, .mk (.some 9) (.faddr 0 (.t 4)) .none 3 (.some []) .true [] .false, .mk (.some 10) (.load 1 .false (.t 9))
  .none 4 (.some []) .true [] .false, .mk (.some 11) (.mv (.t 2)) .none 5 (.some []) .true [] .false, .mk (.some 12) (.call 48 [.t 8, .t 10, .t 11]) .none 6 (.some []) .true []
  .false, .mk (.some 13) (.mv (.t 0)) .none 7 (.some []) .true [] .false, .mk (.some 14) (.nilc (.t 13)) .none 8 (.some []) .true [] .false, .mk (.some 15) (.faddr 7 (.t 14)) .none
  9 (.some []) .true [] .false, .mk (.some 16) (.load 1 .false (.t 15)) .none 10 (.some []) .true [] .false, .mk (.some 17) (.faddr 0 (.t 4)) .none 11 (.some []) .true [] .false,
  .mk (.some 18) (.load 1 .false (.t 17)) .none 12 (.some []) .true [] .false, .mk (.some 19) (.iaddr 2 (.t 16) (.t 18)) .none 13 (.some []) .true [] .false, .mk (.some 20) (.faddr
  1 (.t 19)) .none 14 (.some []) .true [] .false, .mk (.some 21) (.load 1 .false (.t 20)) .none 15 (.some []) .true [] .false, .mk (.some 22) (.mv (.t 0)) .none 16 (.some []) .true
  [] .false, .mk (.some 23) (.nilc (.t 22)) .none 17 (.some []) .true [] .false, .mk (.some 24) (.faddr 4 (.t 23)) .none 18 (.some []) .true [] .false, .mk (.some 25) (.faddr 1 (.t
  24)) .none 19 (.some []) .true [] .false, .mk (.some 26) (.load 1 .false (.t 25)) .none 20 (.some []) .true [] .false, .mk (.some 27) (.bin .add (.t 21) (.t 26)) .none 21 (.some
  []) .true [] .false, .mk (.some 28) (.bin .gtr (.t 12) (.t 27)) .none 22 (.some [6]) .true [] .false]) (.cond (.t 28) (.seq (.reg 23 1 [.mk (.some 6) (.mv (.k (.bool .false)))
  .none 23 .none .false [] .false]) .ret) .skip)) (.seq (.reg 24 5 [.mk (.some 29) (.mv (.t 2)) .none 24 .none .false [] .false, .mk (.some 30) (.faddr 1 (.t 4)) .none 25 .none
  .false [] .false, .mk (.some 31) (.aaddr 1 5 (.t 30) (.t 29)) .none 26 .none .false [] .false, .mk (.some 32) (.load 1 .false (.t 31)) .none 27 .none .false [] .false, .mk (.some
  7) (.mv (.t 32)) .none 28 .none .false [] .false]) (.seq (.draw 29 29 [2, 7, 0] [] [.mk (.some 33) (.mv (.t 7)) .none 29 (.some []) .true [] .false, .mk (.some 34) (.bin .eql (.t
  33) (.k (.int .i64 (-1)))) .none 30 (.some []) .true [] .false, .mk (.some 35) (.mv (.t 34)) .none 31 (.some []) .true [] .false, .mk (.some 36) (.mv (.t 0)) (.some (35, .false))
  32 (.some []) .true [] .false, .mk (.some 37) (.mv (.t 7)) (.some (35, .false)) 33 (.some []) .true [] .false, .mk (.some 38) (.mv (.t 2)) (.some (35, .false)) 34 (.some []) .true
  [] .false, .mk (.some 39) (.call 48 [.t 36, .t 37, .t 38]) (.some (35, .false)) 35 (.some []) .true [] .false, .mk (.some 40) (.mv (.t 0)) (.some (35, .false)) 36 (.some []) .true
  [] .false, .mk (.some 41) (.nilc (.t 40)) (.some (35, .false)) 37 (.some []) .true [] .false, .mk (.some 42) (.faddr 4 (.t 41)) (.some (35, .false)) 38 (.some []) .true [] .false,
  .mk (.some 43) (.faddr 0 (.t 42)) (.some (35, .false)) 39 (.some []) .true [] .false, .mk (.some 44) (.load 1 .false (.t 43)) (.some (35, .false)) 40 (.some []) .true [] .false,
  .mk (.some 45) (.mv (.t 2)) (.some (35, .false)) 41 (.some []) .true [] .false, .mk (.some 46) (.iaddr 3 (.t 44) (.t 45)) (.some (35, .false)) 42 (.some []) .true [] .false, .mk
  (.some 47) (.faddr 2 (.t 46)) (.some (35, .false)) 43 (.some []) .true [] .false, .mk (.some 48) (.load 1 .false (.t 47)) (.some (35, .false)) 44 (.some []) .true [] .false, .mk
  (.some 49) (.bin .add (.t 39) (.t 48)) (.some (35, .false)) 45 (.some [35]) .true [] .false, .mk (.some 50) (.mv (.t 0)) (.some (35, .false)) 46 (.some []) .true [] .false, .mk
  (.some 51) (.nilc (.t 50)) (.some (35, .false)) 47 (.some []) .true [] .false, .mk (.some 52) (.faddr 7 (.t 51)) (.some (35, .false)) 48 (.some []) .true [] .false, .mk (.some 53)
  (.load 1 .false (.t 52)) (.some (35, .false)) 49 (.some []) .true [] .false, .mk (.some 54) (.faddr 0 (.t 4)) (.some (35, .false)) 50 (.some []) .true [] .false, .mk (.some 55)
  (.load 1 .false (.t 54)) (.some (35, .false)) 51 (.some []) .true [] .false, .mk (.some 56) (.iaddr 2 (.t 53) (.t 55)) (.some (35, .false)) 52 (.some []) .true [] .false, .mk
  (.some 57) (.faddr 0 (.t 56)) (.some (35, .false)) 53 (.some []) .true [] .false, .mk (.some 58) (.load 1 .false (.t 57)) (.some (35, .false)) 54 (.some []) .true [] .false, .mk
  (.some 59) (.bin .leq (.t 49) (.t 58)) (.some (35, .false)) 55 (.some [35]) .true [] .false, .mk (.some 60) (.pick (.t 35) (.k (.bool .true)) (.t 59)) .none 56 (.some [35]) .true
  [] .false, .mk (.some 6) (.mv (.t 60)) .none 57 (.some [35]) .true [] .false]) .ret)))
def rs53 : List IRes := [.tmp 6]
set_option maxRecDepth 100000 in
theorem comp53 : Comp Try.prog 53 ir53 rs53 61 := ⟨⟨_, _, 58, Try.func53, rfl, by kernel_rfl, by kernel_rfl, rfl⟩⟩
theorem body53 : HasBody Try.prog 53 := hasBody_of (by kernel_rfl)

def ir54 : IC :=
  .seq (.reg 7 2 [.mk (.some 8) (.box 110 (.t 0)) .none 7 .none .false [] .false, .mk (.some 10) (.mv (.k (.slice .none 0 0))) .none 8 .none .false [] .false]) (.seq (.reg 9 5 [.mk
  (.some 13) (.load 1 .false (.t 2)) .none 9 .none .false [] .false, .mk (.some 14) (.faddr 0 (.t 8)) .none 10 .none .false [] .false, .mk (.some 15) (.load 1 .false (.t 14)) .none
  11 .none .false [] .false, .mk (.some 16) (.mm .true (.t 13) (.t 15)) .none 12 .none .false [] .false, .mk .none (.store 1 (.t 2) (.t 16)) .none 13 .none .false [] .false]) (.seq
  (.seq (.draw 14 13 [] [] [.mk (.some 17) (.faddr 0 (.t 8)) .none 14 (.some []) .true [] .false, .mk (.some 18) (.load 1 .false (.t 17)) .none 15 (.some []) .true [] .false, .mk
  (.some 19) (.load 1 .false (.t 3)) .none 16 (.some []) .true [] .false, .mk (.some 20) (.nilc (.t 19)) .none 17 (.some []) .true [] .false, .mk (.some 21) (.faddr 7 (.t 20)) .none
  18 (.some []) .true [] .false, .mk (.some 22) (.load 1 .false (.t 21)) .none 19 (.some []) .true [] .false, .mk (.some 23) (.len (.t 22)) .none 20 (.some []) .true [] .false, .mk
  (.some 24) (.bin .eql (.t 18) (.t 23)) .none 21 (.some []) .true [] .false, .mk (.some 25) (.mv (.t 24)) .none 22 (.some []) .true [] .false, .mk (.some 26) (.load 1 .false (.t
  4)) (.some (25, .false)) 23 (.some []) .true [] .false, .mk (.some 27) (.load 6 .true (.t 8)) (.some (25, .false)) 24 (.some []) .true [] .false, .mk (.some 28) (.lkp 110 (.bool
  .false) .false (.t 26) (.t 27)) (.some (25, .false)) 25 (.some []) .true [] .false, .mk (.some 29) (.pick (.t 25) (.k (.bool .true)) (.t 28)) .none 26 (.some []) .true [] .false])
  (.cond (.t 29) (.seq (.reg 27 7 [.mk (.some 30) (.mv (.t 1)) .none 27 .none .false [] .false, .mk (.some 31) (.mv (.t 1)) .none 28 .none .false [] .false, .mk (.some 32) (.len (.t
  31)) .none 29 .none .false [] .false, .mk (.some 33) (.mv (.t 1)) .none 30 .none .false [] .false, .mk (.some 34) (.len (.t 33)) .none 31 .none .false [] .false, .mk (.some 35)
  (.slc 1 (.t 30) .none (.some (.t 32)) (.some (.t 34))) .none 32 .none .false [] .false, .mk (.some 10) (.mv (.t 35)) .none 33 .none .false [] .false]) .ret) .skip)) (.seq (.seq
  (.reg 34 7 [.mk (.some 36) (.load 1 .false (.t 3)) .none 34 .none .false [] .false, .mk (.some 37) (.nilc (.t 36)) .none 35 .none .false [] .false, .mk (.some 38) (.faddr 4 (.t
  37)) .none 36 .none .false [] .false, .mk (.some 39) (.faddr 0 (.t 38)) .none 37 .none .false [] .false, .mk (.some 40) (.load 1 .false (.t 39)) .none 38 .none .false [] .false,
  .mk (.some 41) (.len (.t 40)) .none 39 .none .false [] .false, .mk (.some 42) (.mv (.k (.int .i64 0))) .none 40 .none .false [] .false]) (.block 0 (.loop (.seq (.reg 41 1 [.mk
  (.some 43) (.bin .lss (.t 42) (.t 41)) .none 41 .none .false [] .false]) (.seq (.cond (.t 43) .skip (.exit 0)) (.seq (.block 1 (.seq (.reg 42 2 [.mk (.some 44) (.mv (.t 42)) .none
  42 .none .false [] .false, .mk (.some 11) (.mv (.t 44)) .none 43 .none .false [] .false]) (.seq (.seq (.reg 44 10 [.mk (.some 45) (.mv (.t 11)) .none 44 .none .false [] .false,
  .mk (.some 46) (.load 1 .false (.t 5)) .none 45 .none .false [] .false, .mk (.some 47) (.bin .eql (.t 45) (.t 46)) .none 46 .none .false [] .false, .mk (.some 48) (.mv (.t 47))
  .none 47 .none .false [] .false, .mk (.some 49) (.load 1 .false (.t 6)) (.some (48, .false)) 48 .none .false [] .false, .mk (.some 50) (.load 6 .true (.t 8)) (.some (48, .false))
  49 .none .false [] .false, .mk (.some 51) (.mv (.t 11)) (.some (48, .false)) 50 .none .false [] .false, .mk (.some 52) (.callv (.t 49) [.t 50, .t 51]) (.some (48, .false)) 51
  .none .false [] .false, .mk (.some 53) (.un .not (.t 52)) (.some (48, .false)) 52 .none .false [] .false, .mk (.some 54) (.pick (.t 48) (.k (.bool .true)) (.t 53)) .none 53 .none
  .false [] .false]) (.cond (.t 54) (.exit 1) .skip)) (.seq (.draw 54 11 [1, 11, 8] [] [.mk (.some 55) (.load 1 .false (.t 7)) .none 54 (.some []) .true [] .false, .mk (.some 56)
  (.load 6 .true (.t 8)) .none 55 (.some []) .true [] .false, .mk (.some 57) (.mv (.t 11)) .none 56 (.some []) .true [] .false, .mk (.some 58) (.call 55 [.t 56, .t 57]) .none 57
  (.some []) .true [] .false, .mk (.some 59) (.mv (.t 1)) .none 58 (.some []) .true [] .false, .mk (.some 60) (.call 56 [.t 59]) .none 59 (.some [57]) .false [] .false, .mk (.some
  61) (.mv (.t 11)) .none 60 (.some []) .true [] .false, .mk (.some 62) (.bsl 3 1 1 [.int .i64 0] [(0, .t 61)]) .none 61 (.some []) .true [] .false, .mk (.some 63) (.app 3 1 8 (.t
  60) (.t 62)) .none 62 (.some [61, 57, 59]) .false [] .true, .mk (.some 64) (.callv (.t 55) [.t 58, .t 63]) .none 63 (.some [59, 61, 62, 57]) .false [] .false, .mk (.some 12) (.mv
  (.t 64)) .none 64 (.some [57, 62, 61, 59, 63]) .true [] .false]) (.seq (.reg 65 8 [.mk (.some 65) (.mv (.t 12)) .none 65 .none .false [] .false, .mk (.some 66) (.len (.t 65))
  .none 66 .none .false [] .false, .mk (.some 67) (.load 1 .false (.t 3)) .none 67 .none .false [] .false, .mk (.some 68) (.nilc (.t 67)) .none 68 .none .false [] .false, .mk (.some
  69) (.faddr 7 (.t 68)) .none 69 .none .false [] .false, .mk (.some 70) (.load 1 .false (.t 69)) .none 70 .none .false [] .false, .mk (.some 71) (.len (.t 70)) .none 71 .none
  .false [] .false, .mk (.some 72) (.bin .eql (.t 66) (.t 71)) .none 72 .none .false [] .false]) (.cond (.t 72) (.seq (.reg 73 2 [.mk (.some 73) (.mv (.t 12)) .none 73 .none .false
  [] .false, .mk (.some 10) (.mv (.t 73)) .none 74 .none .false [] .false]) .ret) .skip)))))) (.reg 75 2 [.mk (.some 74) (.bin .add (.t 42) (.k (.int .i64 1))) .none 75 .none .false
  [] .false, .mk (.some 42) (.mv (.t 74)) .none 76 .none .false [] .false]))))))) (.seq (.reg 77 3 [.mk (.some 75) (.load 1 .false (.t 4)) .none 77 .none .false [] .false, .mk
  (.some 76) (.load 6 .true (.t 8)) .none 78 .none .false [] .false, .mk .none (.mup 110 (.t 75) (.t 76) (.k (.bool .true))) .none 79 .none .false [] .false]) (.seq (.reg 80 2 [.mk
  (.some 77) (.mv (.t 1)) .none 80 .none .false [] .false, .mk (.some 10) (.mv (.t 77)) .none 81 .none .false [] .false]) .ret)))))
def rs54 : List IRes := [.tmp 10]
set_option maxRecDepth 100000 in
theorem comp54 : CompAt Try.prog 54 7 ir54 rs54 78 := ⟨⟨_, _, 82, Try.func54, rfl, by kernel_rfl, by kernel_rfl, rfl⟩⟩
theorem body54 : HasBody Try.prog 54 := hasBody_of (by kernel_rfl)

def ir55 : IC :=
  .seq (.reg 0 2 [.mk (.some 2) (.box 110 (.t 0)) .none 0 .none .false [] .false, .mk (.some 4) (.alloc 110 [.int .i64 0, .int .i64 0, .int .i64 0, .int .i64 0, .int .i64 0, .int .i64
  0]) .none 1 .none .false [] .false]) (.seq (.reg 2 6 [.mk (.some 5) (.mv (.t 1)) .none 2 .none .false [] .false, .mk (.some 6) (.faddr 0 (.t 2)) .none 3 .none .false [] .false,
  .mk (.some 7) (.load 1 .false (.t 6)) .none 4 .none .false [] .false, .mk (.some 8) (.faddr 1 (.t 2)) .none 5 .none .false [] .false, .mk (.some 9) (.aaddr 1 5 (.t 8) (.t 5))
  .none 6 .none .false [] .false, .mk .none (.store 1 (.t 9) (.t 7)) .none 7 .none .false [] .false]) (.seq (.reg 8 5 [.mk (.some 10) (.faddr 0 (.t 2)) .none 8 .none .false []
  .false, .mk (.some 11) (.load 1 .false (.t 10)) .none 9 .none .false [] .false, .mk (.some 12) (.bin .add (.t 11) (.k (.int .i64 1))) .none 10 .none .false [] .false, .mk (.some
  13) (.faddr 0 (.t 2)) .none 11 .none .false [] .false, .mk .none (.store 1 (.t 13) (.t 12)) .none 12 .none .false [] .false]) (.seq (.reg 13 2 [.mk (.some 14) (.load 6 .true (.t
  2)) .none 13 .none .false [] .false, .mk .none (.store 6 (.t 4) (.t 14)) .none 14 .none .false [] .false]) .ret)))
def rs55 : List IRes := [.cell 4 6 .true]
set_option maxRecDepth 100000 in
theorem comp55 : Comp Try.prog 55 ir55 rs55 15 := ⟨⟨_, _, 15, Try.func55, rfl, by kernel_rfl, by kernel_rfl, rfl⟩⟩
theorem body55 : HasBody Try.prog 55 := hasBody_of (by kernel_rfl)

def ir56 : IC :=
  .seq (.reg 0 1 [.mk (.some 2) (.mv (.k (.slice .none 0 0))) .none 0 .none .false [] .false]) (.seq (.seq (.reg 1 2 [.mk (.some 3) (.mv (.t 0)) .none 1 .none .false [] .false, .mk
  (.some 4) (.pur (.bin .eql 46) [.t 3, .k (.slice .none 0 0)]) .none 2 .none .false [] .false]) (.cond (.t 4) (.seq (.reg 3 1 [.mk (.some 2) (.mv (.k (.slice .none 0 0))) .none 3
  .none .false [] .false]) .ret) .skip)) (.seq (.reg 4 4 [.mk (.some 5) (.bsl 3 1 0 [] []) .none 4 .none .false [] .false, .mk (.some 6) (.mv (.t 0)) .none 5 .none .false [] .false,
  .mk (.some 7) (.app 3 1 8 (.t 5) (.t 6)) .none 6 .none .false [] .false, .mk (.some 2) (.mv (.t 7)) .none 7 .none .false [] .false]) .ret))
def rs56 : List IRes := [.tmp 2]
set_option maxRecDepth 100000 in
theorem comp56 : Comp Try.prog 56 ir56 rs56 8 := ⟨⟨_, _, 8, Try.func56, rfl, by kernel_rfl, by kernel_rfl, rfl⟩⟩
theorem body56 : HasBody Try.prog 56 := hasBody_of (by kernel_rfl)

def ir57 : IC :=
  .seq (.reg 0 1 [.mk (.some 2) (.alloc 110 [.int .i64 0, .int .i64 0, .int .i64 0, .int .i64 0, .int .i64 0, .int .i64 0]) .none 0 .none .false [] .false]) (.seq (.reg 1 1 [.mk
  (.some 3) (.alloc 110 [.int .i64 0, .int .i64 0, .int .i64 0, .int .i64 0, .int .i64 0, .int .i64 0]) .none 1 .none .false [] .false]) (.seq (.seq (.reg 2 1 [.mk (.some 7) (.mv
  (.k (.int .i64 0))) .none 2 .none .false [] .false]) (.block 0 (.loop (.seq (.reg 3 1 [.mk (.some 8) (.bin .lss (.t 7) (.k (.int .i64 5))) .none 3 .none .false [] .false]) (.seq
  (.cond (.t 8) .skip (.exit 0)) (.seq (.block 1 (.seq (.reg 4 2 [.mk (.some 9) (.mv (.t 7)) .none 4 .none .false [] .false, .mk (.some 4) (.mv (.t 9)) .none 5 .none .false []
  .false]) (.reg 6 4 [.mk (.some 10) (.mv (.t 4)) .none 6 .none .false [] .false, .mk (.some 11) (.faddr 1 (.t 3)) .none 7 .none .false [] .false, .mk (.some 12) (.aaddr 1 5 (.t 11)
  (.t 10)) .none 8 .none .false [] .false, .mk .none (.store 1 (.t 12) (.k (.int .i64 (-1)))) .none 9 .none .false [] .false]))) (.reg 10 2 [.mk (.some 13) (.bin .add (.t 7) (.k
  (.int .i64 1))) .none 10 .none .false [] .false, .mk (.some 7) (.mv (.t 13)) .none 11 .none .false [] .false]))))))) (.seq (.seq (.reg 12 3 [.mk (.some 14) (.mv (.t 0)) .none 12
  .none .false [] .false, .mk (.some 15) (.len (.t 14)) .none 13 .none .false [] .false, .mk (.some 16) (.mv (.k (.int .i64 0))) .none 14 .none .false [] .false]) (.block 2 (.loop
  (.seq (.reg 15 1 [.mk (.some 17) (.bin .lss (.t 16) (.t 15)) .none 15 .none .false [] .false]) (.seq (.cond (.t 17) .skip (.exit 2)) (.seq (.block 3 (.seq (.reg 16 3 [.mk (.some
  18) (.iaddr 1 (.t 14) (.t 16)) .none 16 .none .false [] .false, .mk (.some 19) (.load 1 .false (.t 18)) .none 17 .none .false [] .false, .mk (.some 6) (.mv (.t 19)) .none 18 .none
  .false [] .false]) (.reg 19 4 [.mk (.some 20) (.load 6 .true (.t 3)) .none 19 .none .false [] .false, .mk (.some 21) (.mv (.t 6)) .none 20 .none .false [] .false, .mk (.some 22)
  (.call 55 [.t 20, .t 21]) .none 21 .none .false [] .false, .mk .none (.store 6 (.t 3) (.t 22)) .none 22 .none .false [] .false]))) (.reg 23 2 [.mk (.some 23) (.bin .add (.t 16)
  (.k (.int .i64 1))) .none 23 .none .false [] .false, .mk (.some 16) (.mv (.t 23)) .none 24 .none .false [] .false]))))))) (.seq (.reg 25 2 [.mk (.some 24) (.load 6 .true (.t 3))
  .none 25 .none .false [] .false, .mk .none (.store 6 (.t 2) (.t 24)) .none 26 .none .false [] .false]) .ret))))
def rs57 : List IRes := [.cell 2 6 .true]
set_option maxRecDepth 100000 in
theorem comp57 : Comp Try.prog 57 ir57 rs57 25 := ⟨⟨_, _, 27, Try.func57, rfl, by kernel_rfl, by kernel_rfl, rfl⟩⟩
theorem body57 : HasBody Try.prog 57 := hasBody_of (by kernel_rfl)

def ir58 : IC :=
  .seq (.reg 1 2 [.mk (.some 3) (.box 87 (.t 1)) .none 1 .none .false [] .false, .mk (.some 4) (.mv (.k (.bool .false))) .none 2 .none .false [] .false]) (.seq (.reg 3 5 [.mk (.some
  5) (.mv (.t 0)) .none 3 .none .false [] .false, .mk (.some 6) (.mkf 66 [] [.t 3]) .none 4 .none .false [] .false, .mk (.some 7) (.call 65 [.t 5, .t 6]) .none 5 .none .false []
  .false, .mk (.some 8) (.un .not (.t 7)) .none 6 .none .false [] .false, .mk (.some 4) (.mv (.t 8)) .none 7 .none .false [] .false]) .ret)
def rs58 : List IRes := [.tmp 4]
set_option maxRecDepth 100000 in
theorem comp58 : CompAt Try.prog 58 1 ir58 rs58 9 := ⟨⟨_, _, 8, Try.func58, rfl, by kernel_rfl, by kernel_rfl, rfl⟩⟩
theorem body58 : HasBody Try.prog 58 := hasBody_of (by kernel_rfl)

def ir59 : IC :=
  .seq (.reg 1 1 [.mk (.some 3) (.mv (.k (.bool .false))) .none 1 .none .false [] .false]) (.seq (.reg 2 10 [.mk (.some 4) (.mv (.t 0)) .none 2 .none .false [] .false, .mk (.some 5)
  (.load 1 .false (.t 1)) .none 3 .none .false [] .false, .mk (.some 6) (.nilc (.t 5)) .none 4 .none .false [] .false, .mk (.some 7) (.faddr 4 (.t 6)) .none 5 .none .false []
  .false, .mk (.some 8) (.faddr 0 (.t 7)) .none 6 .none .false [] .false, .mk (.some 9) (.load 1 .false (.t 8)) .none 7 .none .false [] .false, .mk (.some 10) (.len (.t 9)) .none 8
  .none .false [] .false, .mk (.some 11) (.bin .sub (.t 10) (.k (.int .i64 1))) .none 9 .none .false [] .false, .mk (.some 12) (.call 37 [.t 4, .k (.int .i64 0), .t 11]) .none 10
  .none .false [] .false, .mk (.some 3) (.mv (.t 12)) .none 11 .none .false [] .false]) .ret)
def rs59 : List IRes := [.tmp 3]
set_option maxRecDepth 100000 in
theorem comp59 : CompAt Try.prog 59 1 ir59 rs59 13 := ⟨⟨_, _, 12, Try.func59, rfl, by kernel_rfl, by kernel_rfl, rfl⟩⟩
theorem body59 : HasBody Try.prog 59 := hasBody_of (by kernel_rfl)

def ir60 : IC :=
  .seq (.reg 0 1 [.mk (.some 2) (.mv (.k (.int .i64 0))) .none 0 .none .false [] .false]) (.seq (.seq (.reg 1 3 [.mk (.some 5) (.mv (.t 0)) .none 1 .none .false [] .false, .mk (.some
  6) (.len (.t 5)) .none 2 .none .false [] .false, .mk (.some 7) (.mv (.k (.int .i64 0))) .none 3 .none .false [] .false]) (.block 0 (.loop (.seq (.reg 4 1 [.mk (.some 8) (.bin .lss
  (.t 7) (.t 6)) .none 4 .none .false [] .false]) (.seq (.cond (.t 8) .skip (.exit 0)) (.seq (.block 1 (.seq (.reg 5 3 [.mk (.some 9) (.iaddr 1 (.t 5) (.t 7)) .none 5 .none .false
  [] .false, .mk (.some 10) (.load 1 .false (.t 9)) .none 6 .none .false [] .false, .mk (.some 4) (.mv (.t 10)) .none 7 .none .false [] .false]) (.reg 8 4 [.mk (.some 11) (.mv (.t
  2)) .none 8 .none .false [] .false, .mk (.some 12) (.mv (.t 4)) .none 9 .none .false [] .false, .mk (.some 13) (.bin .add (.t 11) (.t 12)) .none 10 .none .false [] .false, .mk
  (.some 2) (.mv (.t 13)) .none 11 .none .false [] .false]))) (.reg 12 2 [.mk (.some 14) (.bin .add (.t 7) (.k (.int .i64 1))) .none 12 .none .false [] .false, .mk (.some 7) (.mv
  (.t 14)) .none 13 .none .false [] .false]))))))) (.seq (.reg 14 2 [.mk (.some 15) (.mv (.t 2)) .none 14 .none .false [] .false, .mk (.some 2) (.mv (.t 15)) .none 15 .none .false
  [] .false]) .ret))
def rs60 : List IRes := [.tmp 2]
set_option maxRecDepth 100000 in
theorem comp60 : Comp Try.prog 60 ir60 rs60 16 := ⟨⟨_, _, 16, Try.func60, rfl, by kernel_rfl, by kernel_rfl, rfl⟩⟩
theorem body60 : HasBody Try.prog 60 := hasBody_of (by kernel_rfl)

def ir61 : IC :=
  .seq (.reg 0 2 [.mk (.some 1) (.box 35 (.t 0)) .none 0 .none .false [] .false, .mk (.some 2) (.mv (.k (.int .i64 0))) .none 1 .none .false [] .false]) (.seq (.reg 2 6 [.mk (.some 3)
  (.faddr 1 (.t 1)) .none 2 .none .false [] .false, .mk (.some 4) (.load 1 .false (.t 3)) .none 3 .none .false [] .false, .mk (.some 5) (.faddr 0 (.t 1)) .none 4 .none .false []
  .false, .mk (.some 6) (.load 1 .false (.t 5)) .none 5 .none .false [] .false, .mk (.some 7) (.bin .sub (.t 4) (.t 6)) .none 6 .none .false [] .false, .mk (.some 2) (.mv (.t 7))
  .none 7 .none .false [] .false]) .ret)
def rs61 : List IRes := [.tmp 2]
set_option maxRecDepth 100000 in
theorem comp61 : Comp Try.prog 61 ir61 rs61 8 := ⟨⟨_, _, 8, Try.func61, rfl, by kernel_rfl, by kernel_rfl, rfl⟩⟩
theorem body61 : HasBody Try.prog 61 := hasBody_of (by kernel_rfl)

def ir62 : IC :=
  .seq (.reg 0 2 [.mk (.some 3) (.box 117 (.t 1)) .none 0 .none .false [] .false, .mk (.some 4) (.mv (.k (.bool .false))) .none 1 .none .false [] .false]) (.seq (.reg 2 5 [.mk (.some
  5) (.mv (.t 0)) .none 2 .none .false [] .false, .mk (.some 6) (.mkf 68 [] [.t 3]) .none 3 .none .false [] .false, .mk (.some 7) (.call 67 [.t 5, .t 6]) .none 4 .none .false []
  .false, .mk (.some 8) (.un .not (.t 7)) .none 5 .none .false [] .false, .mk (.some 4) (.mv (.t 8)) .none 6 .none .false [] .false]) .ret)
def rs62 : List IRes := [.tmp 4]
set_option maxRecDepth 100000 in
theorem comp62 : Comp Try.prog 62 ir62 rs62 9 := ⟨⟨_, _, 7, Try.func62, rfl, by kernel_rfl, by kernel_rfl, rfl⟩⟩
theorem body62 : HasBody Try.prog 62 := hasBody_of (by kernel_rfl)

def ir63 : IC :=
  .seq (.reg 0 2 [.mk (.some 1) (.box 99 (.t 0)) .none 0 .none .false [] .false, .mk (.some 2) (.mv (.k (.bool .false))) .none 1 .none .false [] .false]) (.seq (.reg 2 25 [.mk (.some
  3) (.faddr 0 (.t 1)) .none 2 .none .false [] .false, .mk (.some 4) (.faddr 0 (.t 3)) .none 3 .none .false [] .false, .mk (.some 5) (.load 1 .false (.t 4)) .none 4 .none .false []
  .false, .mk (.some 6) (.bin .leq (.k (.int .i64 0)) (.t 5)) .none 5 .none .false [] .false, .mk (.some 7) (.mv (.t 6)) .none 6 .none .false [] .false, .mk (.some 8) (.faddr 0 (.t
  1)) (.some (7, .true)) 7 .none .false [] .false, .mk (.some 9) (.faddr 0 (.t 8)) (.some (7, .true)) 8 .none .false [] .false, .mk (.some 10) (.load 1 .false (.t 9)) (.some (7,
  .true)) 9 .none .false [] .false, .mk (.some 11) (.faddr 0 (.t 1)) (.some (7, .true)) 10 .none .false [] .false, .mk (.some 12) (.faddr 1 (.t 11)) (.some (7, .true)) 11 .none
  .false [] .false, .mk (.some 13) (.load 1 .false (.t 12)) (.some (7, .true)) 12 .none .false [] .false, .mk (.some 14) (.bin .leq (.t 10) (.t 13)) (.some (7, .true)) 13 .none
  .false [] .false, .mk (.some 15) (.pick (.t 7) (.t 14) (.k (.bool .false))) .none 14 .none .false [] .false, .mk (.some 16) (.mv (.t 15)) .none 15 .none .false [] .false, .mk
  (.some 17) (.faddr 0 (.t 1)) (.some (16, .true)) 16 .none .false [] .false, .mk (.some 18) (.faddr 1 (.t 17)) (.some (16, .true)) 17 .none .false [] .false, .mk (.some 19) (.load
  1 .false (.t 18)) (.some (16, .true)) 18 .none .false [] .false, .mk (.some 20) (.bin .leq (.t 19) (.k (.int .i64 20))) (.some (16, .true)) 19 .none .false [] .false, .mk (.some
  21) (.pick (.t 16) (.t 20) (.k (.bool .false))) .none 20 .none .false [] .false, .mk (.some 22) (.mv (.t 21)) .none 21 .none .false [] .false, .mk (.some 23) (.faddr 2 (.t 1))
  (.some (22, .true)) 22 .none .false [] .false, .mk (.some 24) (.load 1 .false (.t 23)) (.some (22, .true)) 23 .none .false [] .false, .mk (.some 25) (.call 37 [.t 24, .k (.int
  .i64 0), .k (.int .i64 36000)]) (.some (22, .true)) 24 .none .false [] .false, .mk (.some 26) (.pick (.t 22) (.t 25) (.k (.bool .false))) .none 25 .none .false [] .false, .mk
  (.some 2) (.mv (.t 26)) .none 26 .none .false [] .false]) .ret)
def rs63 : List IRes := [.tmp 2]
set_option maxRecDepth 100000 in
theorem comp63 : Comp Try.prog 63 ir63 rs63 27 := ⟨⟨_, _, 27, Try.func63, rfl, by kernel_rfl, by kernel_rfl, rfl⟩⟩
theorem body63 : HasBody Try.prog 63 := hasBody_of (by kernel_rfl)

def ir64 : IC :=
  .seq (.reg 0 2 [.mk (.some 1) (.box 32 (.t 0)) .none 0 .none .false [] .false, .mk (.some 2) (.mv (.k .nilFunc)) .none 1 .none .false [] .false]) (.seq (.reg 2 2 [.mk (.some 3)
  (.mkf 69 [] [.t 1]) .none 2 .none .false [] .false, .mk (.some 2) (.mv (.t 3)) .none 3 .none .false [] .false]) .ret)
def rs64 : List IRes := [.tmp 2]
set_option maxRecDepth 100000 in
theorem comp64 : Comp Try.prog 64 ir64 rs64 4 := ⟨⟨_, _, 4, Try.func64, rfl, by kernel_rfl, by kernel_rfl, rfl⟩⟩
theorem body64 : HasBody Try.prog 64 := hasBody_of (by kernel_rfl)

def ir65 : IC :=
  .seq (.reg 2 1 [.mk (.some 4) (.mv (.k (.bool .false))) .none 2 .none .false [] .false]) (.seq (.reg 3 5 [.mk (.some 5) (.mv (.t 0)) .none 3 .none .false [] .false, .mk (.some 6)
  (.mv (.t 1)) .none 4 .none .false [] .false, .mk (.some 7) (.call 71 [.t 5, .t 6]) .none 5 .none .false [] .false, .mk (.some 8) (.bin .geq (.t 7) (.k (.int .i64 0))) .none 6
  .none .false [] .false, .mk (.some 4) (.mv (.t 8)) .none 7 .none .false [] .false]) .ret)
def rs65 : List IRes := [.tmp 4]
set_option maxRecDepth 100000 in
theorem comp65 : CompAt Try.prog 65 2 ir65 rs65 9 := ⟨⟨_, _, 8, Try.func65, rfl, by kernel_rfl, by kernel_rfl, rfl⟩⟩
theorem body65 : HasBody Try.prog 65 := hasBody_of (by kernel_rfl)

def ir66 : IC :=
  .seq (.reg 2 1 [.mk (.some 3) (.mv (.k (.bool .false))) .none 2 .none .false [] .false]) (.seq (.reg 3 5 [.mk (.some 4) (.load 1 .false (.t 1)) .none 3 .none .false [] .false, .mk
  (.some 5) (.mv (.t 0)) .none 4 .none .false [] .false, .mk (.some 6) (.callv (.t 4) [.t 5]) .none 5 .none .false [] .false, .mk (.some 7) (.un .not (.t 6)) .none 6 .none .false []
  .false, .mk (.some 3) (.mv (.t 7)) .none 7 .none .false [] .false]) .ret)
def rs66 : List IRes := [.tmp 3]
set_option maxRecDepth 100000 in
theorem comp66 : CompAt Try.prog 66 2 ir66 rs66 8 := ⟨⟨_, _, 8, Try.func66, rfl, by kernel_rfl, by kernel_rfl, rfl⟩⟩
theorem body66 : HasBody Try.prog 66 := hasBody_of (by kernel_rfl)

def ir67 : IC :=
  .seq (.reg 1 1 [.mk (.some 4) (.mv (.k (.bool .false))) .none 1 .none .false [] .false]) (.seq (.reg 2 5 [.mk (.some 5) (.mv (.t 0)) .none 2 .none .false [] .false, .mk (.some 6)
  (.mv (.t 1)) .none 3 .none .false [] .false, .mk (.some 7) (.call 72 [.t 5, .t 6]) .none 4 .none .false [] .false, .mk (.some 8) (.bin .geq (.t 7) (.k (.int .i64 0))) .none 5
  .none .false [] .false, .mk (.some 4) (.mv (.t 8)) .none 6 .none .false [] .false]) .ret)
def rs67 : List IRes := [.tmp 4]
set_option maxRecDepth 100000 in
theorem comp67 : CompAt Try.prog 67 1 ir67 rs67 9 := ⟨⟨_, _, 7, Try.func67, rfl, by kernel_rfl, by kernel_rfl, rfl⟩⟩
theorem body67 : HasBody Try.prog 67 := hasBody_of (by kernel_rfl)

def ir68 : IC :=
  .seq (.reg 1 2 [.mk (.some 2) (.box 99 (.t 0)) .none 1 .none .false [] .false, .mk (.some 3) (.mv (.k (.bool .false))) .none 2 .none .false [] .false]) (.seq (.reg 3 5 [.mk (.some
  4) (.load 1 .false (.t 1)) .none 3 .none .false [] .false, .mk (.some 5) (.load 3 .true (.t 2)) .none 4 .none .false [] .false, .mk (.some 6) (.callv (.t 4) [.t 5]) .none 5 .none
  .false [] .false, .mk (.some 7) (.un .not (.t 6)) .none 6 .none .false [] .false, .mk (.some 3) (.mv (.t 7)) .none 7 .none .false [] .false]) .ret)
def rs68 : List IRes := [.tmp 3]
set_option maxRecDepth 100000 in
theorem comp68 : CompAt Try.prog 68 1 ir68 rs68 8 := ⟨⟨_, _, 8, Try.func68, rfl, by kernel_rfl, by kernel_rfl, rfl⟩⟩
theorem body68 : HasBody Try.prog 68 := hasBody_of (by kernel_rfl)

def ir69 : IC :=
  .seq (.reg 0 1 [.mk (.some 3) (.mv (.k (.int .i64 0))) .none 0 .none .false [] .false]) (.seq (.draw 1 12 [1] [] [.mk (.some 7) (.faddr 1 (.t 1)) .none 1 (.some []) .true [] .false,
  .mk (.some 8) (.load 1 .false (.t 7)) .none 2 (.some []) .true [] .false, .mk (.some 9) (.call 70 [.t 8]) .none 3 (.some []) .true [] .false, .mk (.some 10) (.faddr 0 (.t 1))
  .none 4 (.some []) .true [] .false, .mk (.some 11) (.load 1 .false (.t 10)) .none 5 (.some []) .true [] .false, .mk (.some 12) (.faddr 0 (.t 1)) .none 6 (.some []) .true []
  .false, .mk (.some 13) (.load 1 .false (.t 12)) .none 7 (.some []) .true [] .false, .mk (.some 14) (.bld [(0, 1), (1, 1)] [.int .i64 0, .int .i64 0] [(0, .t 11), (1, .t 13)])
  .none 8 (.some []) .true [] .false, .mk (.some 15) (.bsl 35 2 1 [.int .i64 0, .int .i64 0] [(0, .t 14)]) .none 9 (.some []) .true [] .false, .mk (.some 16) (.app 35 2 16 (.t 9)
  (.t 15)) .none 10 (.some [9, 3]) .false [] .false, .mk (.some 17) (.len (.t 16)) .none 11 (.some [3, 9, 10]) .true [] .false, .mk (.some 18) (.mv (.k (.int .i64 0))) .none 12
  (.some []) .true [] .false]) (.block 0 (.loop (.seq (.reg 13 1 [.mk (.some 19) (.bin .lss (.t 18) (.t 17)) .none 13 .none .false [] .false]) (.seq (.cond (.t 19) .skip (.exit 0))
  (.seq (.block 1 (.seq (.reg 14 4 [.mk (.some 20) (.iaddr 2 (.t 16) (.t 18)) .none 14 .none .false [] .false, .mk (.some 21) (.load 2 .true (.t 20)) .none 15 .none .false []
  .false, .mk (.some 5) (.alloc 35 [.int .i64 0, .int .i64 0]) .none 16 .none .false [] .false, .mk .none (.store 2 (.t 5) (.t 21)) .none 17 .none .false [] .false]) (.seq (.seq
  (.reg 18 6 [.mk (.some 22) (.mv (.t 3)) .none 18 .none .false [] .false, .mk (.some 23) (.faddr 0 (.t 5)) .none 19 .none .false [] .false, .mk (.some 24) (.load 1 .false (.t 23))
  .none 20 .none .false [] .false, .mk (.some 25) (.bld [(0, 1), (1, 1)] [.int .i64 0, .int .i64 0] [(0, .t 22), (1, .t 24)]) .none 21 .none .false [] .false, .mk (.some 6) (.alloc
  35 [.int .i64 0, .int .i64 0]) .none 22 .none .false [] .false, .mk .none (.store 2 (.t 6) (.t 25)) .none 23 .none .false [] .false]) (.seq (.reg 24 9 [.mk (.some 26) (.load 2
  .true (.t 6)) .none 24 .none .false [] .false, .mk (.some 27) (.call 61 [.t 26]) .none 25 .none .false [] .false, .mk (.some 28) (.bin .gtr (.t 27) (.k (.int .i64 0))) .none 26
  .none .false [] .false, .mk (.some 29) (.mv (.t 28)) .none 27 .none .false [] .false, .mk (.some 30) (.mv (.t 0)) (.some (29, .true)) 28 .none .false [] .false, .mk (.some 31)
  (.load 2 .true (.t 6)) (.some (29, .true)) 29 .none .false [] .false, .mk (.some 32) (.callv (.t 30) [.t 31]) (.some (29, .true)) 30 .none .false [] .false, .mk (.some 33) (.un
  .not (.t 32)) (.some (29, .true)) 31 .none .false [] .false, .mk (.some 34) (.pick (.t 29) (.t 33) (.k (.bool .false))) .none 32 .none .false [] .false]) (.cond (.t 34) .ret
  .skip))) (.reg 33 3 [.mk (.some 35) (.faddr 1 (.t 5)) .none 33 .none .false [] .false, .mk (.some 36) (.load 1 .false (.t 35)) .none 34 .none .false [] .false, .mk (.some 3) (.mv
  (.t 36)) .none 35 .none .false [] .false])))) (.reg 36 2 [.mk (.some 37) (.bin .add (.t 18) (.k (.int .i64 1))) .none 36 .none .false [] .false, .mk (.some 18) (.mv (.t 37)) .none
  37 .none .false [] .false])))))))
def rs69 : List IRes := []
set_option maxRecDepth 100000 in
theorem comp69 : Comp Try.prog 69 ir69 rs69 38 := ⟨⟨_, _, 38, Try.func69, rfl, by kernel_rfl, by kernel_rfl, rfl⟩⟩
theorem body69 : HasBody Try.prog 69 := hasBody_of (by kernel_rfl)

def ir70 : IC :=
  .seq (.reg 0 1 [.mk (.some 2) (.mv (.k (.slice .none 0 0))) .none 0 .none .false [] .false]) (.seq (.seq (.reg 1 2 [.mk (.some 3) (.mv (.t 0)) .none 1 .none .false [] .false, .mk
  (.some 4) (.pur (.bin .eql 27) [.t 3, .k (.slice .none 0 0)]) .none 2 .none .false [] .false]) (.cond (.t 4) (.seq (.reg 3 1 [.mk (.some 2) (.mv (.k (.slice .none 0 0))) .none 3
  .none .false [] .false]) .ret) .skip)) (.seq (.reg 4 4 [.mk (.some 5) (.bsl 35 2 0 [] []) .none 4 .none .false [] .false, .mk (.some 6) (.mv (.t 0)) .none 5 .none .false []
  .false, .mk (.some 7) (.app 35 2 16 (.t 5) (.t 6)) .none 6 .none .false [] .false, .mk (.some 2) (.mv (.t 7)) .none 7 .none .false [] .false]) .ret))
def rs70 : List IRes := [.tmp 2]
set_option maxRecDepth 100000 in
theorem comp70 : Comp Try.prog 70 ir70 rs70 8 := ⟨⟨_, _, 8, Try.func70, rfl, by kernel_rfl, by kernel_rfl, rfl⟩⟩
theorem body70 : HasBody Try.prog 70 := hasBody_of (by kernel_rfl)

def ir71 : IC :=
  .seq (.reg 2 1 [.mk (.some 4) (.mv (.k (.int .i64 0))) .none 2 .none .false [] .false]) (.seq (.seq (.reg 3 3 [.mk (.some 6) (.mv (.t 0)) .none 3 .none .false [] .false, .mk (.some
  7) (.len (.t 6)) .none 4 .none .false [] .false, .mk (.some 8) (.mv (.k (.int .i64 0))) .none 5 .none .false [] .false]) (.block 0 (.loop (.seq (.reg 6 1 [.mk (.some 9) (.bin .lss
  (.t 8) (.t 7)) .none 6 .none .false [] .false]) (.seq (.cond (.t 9) .skip (.exit 0)) (.seq (.block 1 (.seq (.reg 7 2 [.mk (.some 10) (.mv (.t 8)) .none 7 .none .false [] .false,
  .mk (.some 5) (.mv (.t 10)) .none 8 .none .false [] .false]) (.seq (.reg 9 6 [.mk (.some 11) (.mv (.t 1)) .none 9 .none .false [] .false, .mk (.some 12) (.mv (.t 0)) .none 10
  .none .false [] .false, .mk (.some 13) (.mv (.t 5)) .none 11 .none .false [] .false, .mk (.some 14) (.iaddr 1 (.t 12) (.t 13)) .none 12 .none .false [] .false, .mk (.some 15)
  (.load 1 .false (.t 14)) .none 13 .none .false [] .false, .mk (.some 16) (.callv (.t 11) [.t 15]) .none 14 .none .false [] .false]) (.cond (.t 16) (.seq (.reg 15 2 [.mk (.some 17)
  (.mv (.t 5)) .none 15 .none .false [] .false, .mk (.some 4) (.mv (.t 17)) .none 16 .none .false [] .false]) .ret) .skip)))) (.reg 17 2 [.mk (.some 18) (.bin .add (.t 8) (.k (.int
  .i64 1))) .none 17 .none .false [] .false, .mk (.some 8) (.mv (.t 18)) .none 18 .none .false [] .false]))))))) (.seq (.reg 19 1 [.mk (.some 4) (.mv (.k (.int .i64 (-1)))) .none 19
  .none .false [] .false]) .ret))
def rs71 : List IRes := [.tmp 4]
set_option maxRecDepth 100000 in
theorem comp71 : CompAt Try.prog 71 2 ir71 rs71 19 := ⟨⟨_, _, 20, Try.func71, rfl, by kernel_rfl, by kernel_rfl, rfl⟩⟩
theorem body71 : HasBody Try.prog 71 := hasBody_of (by kernel_rfl)

def ir72 : IC :=
  .seq (.reg 1 1 [.mk (.some 4) (.mv (.k (.int .i64 0))) .none 1 .none .false [] .false]) (.seq (.seq (.reg 2 3 [.mk (.some 6) (.mv (.t 0)) .none 2 .none .false [] .false, .mk (.some
  7) (.len (.t 6)) .none 3 .none .false [] .false, .mk (.some 8) (.mv (.k (.int .i64 0))) .none 4 .none .false [] .false]) (.block 0 (.loop (.seq (.reg 5 1 [.mk (.some 9) (.bin .lss
  (.t 8) (.t 7)) .none 5 .none .false [] .false]) (.seq (.cond (.t 9) .skip (.exit 0)) (.seq (.block 1 (.seq (.reg 6 2 [.mk (.some 10) (.mv (.t 8)) .none 6 .none .false [] .false,
  .mk (.some 5) (.mv (.t 10)) .none 7 .none .false [] .false]) (.seq (.reg 8 6 [.mk (.some 11) (.mv (.t 1)) .none 8 .none .false [] .false, .mk (.some 12) (.mv (.t 0)) .none 9 .none
  .false [] .false, .mk (.some 13) (.mv (.t 5)) .none 10 .none .false [] .false, .mk (.some 14) (.iaddr 3 (.t 12) (.t 13)) .none 11 .none .false [] .false, .mk (.some 15) (.load 3
  .true (.t 14)) .none 12 .none .false [] .false, .mk (.some 16) (.callv (.t 11) [.t 15]) .none 13 .none .false [] .false]) (.cond (.t 16) (.seq (.reg 14 2 [.mk (.some 17) (.mv (.t
  5)) .none 14 .none .false [] .false, .mk (.some 4) (.mv (.t 17)) .none 15 .none .false [] .false]) .ret) .skip)))) (.reg 16 2 [.mk (.some 18) (.bin .add (.t 8) (.k (.int .i64 1)))
  .none 16 .none .false [] .false, .mk (.some 8) (.mv (.t 18)) .none 17 .none .false [] .false]))))))) (.seq (.reg 18 1 [.mk (.some 4) (.mv (.k (.int .i64 (-1)))) .none 18 .none
  .false [] .false]) .ret))
def rs72 : List IRes := [.tmp 4]
set_option maxRecDepth 100000 in
theorem comp72 : CompAt Try.prog 72 1 ir72 rs72 19 := ⟨⟨_, _, 19, Try.func72, rfl, by kernel_rfl, by kernel_rfl, rfl⟩⟩
theorem body72 : HasBody Try.prog 72 := hasBody_of (by kernel_rfl)

end Go.Proofs.Ytcmhpndhloplpaa
