/- The intermediate forms of functions of the program (printed by a program of mine), each checked against the code. The intermediate forms of functions of the program (printed by a program of mine), each checked against the code. -/
import Derived.Test.YtpcpjmplgladmaaMC
import Derived.Test.YtpcpjmplgladmaaProg
import Derived.KernelRfl
set_option linter.unusedSimpArgs false
set_option linter.unusedVariables false
namespace Go.Proofs.Ytpcpjmplgladmaa
open Go.Pal
def ir3 : IC :=
  .seq (.reg 0 3 [.mk (.some 2) (.box 25 (.t 0)) .none 0 .none .false [] .false, .mk (.some 3) (.box 28 (.t 1)) .none 1 .none .false [] .false, .mk (.some 4) (.mv (.k (.bool .false)))
  .none 2 .none .false [] .false]) (.seq (.seq (.reg 3 4 [.mk (.some 11) (.load 3 .true (.t 2)) .none 3 .none .false [] .false, .mk (.some 12) (.load 2 .true (.t 3)) .none 4 .none
  .false [] .false, .mk (.some 13) (.call 13 [.t 11, .t 12]) .none 5 .none .false [] .false, .mk (.some 14) (.un .not (.t 13)) .none 6 .none .false [] .false]) (.cond (.t 14) (.seq
  (.reg 7 2 [.mk (.some 15) (.call 14 []) .none 7 .none .false [] .false, .mk (.some 4) (.mv (.t 15)) .none 8 .none .false [] .false]) .ret) .skip)) (.seq (.draw 9 10 [3, 2] [] [.mk
  (.some 17) (.load 3 .true (.t 2)) .none 9 (.some []) .true [] .false, .mk (.some 18) (.call 16 [.t 17]) .none 10 (.some []) .true [] .false, .mk (.some 19) (.load 2 .true (.t 3))
  .none 11 (.some []) .true [] .false, .mk (.some 20) (.call 17 [.t 19]) .none 12 (.some [10]) .false [] .false, .mk (.some 21) (.call 15 [.t 18, .t 20]) .none 13 (.some [12, 10])
  .false [] .false, .mk (.some 16) (.mv (.t 21)) .none 14 (.some [10, 12, 13]) .true [] .false, .mk (.some 22) (.ext (.t 16) 0) .none 15 (.some [13, 12, 10]) .true [] .false, .mk
  (.some 23) (.ext (.t 16) 1) .none 16 (.some [13, 12, 10]) .true [] .false, .mk (.some 5) (.mv (.t 22)) .none 17 (.some [10, 12, 13]) .true [] .false, .mk (.some 6) (.mv (.t 23))
  .none 18 (.some [10, 12, 13]) .true [] .false]) (.seq (.seq (.reg 19 4 [.mk (.some 24) (.load 3 .true (.t 2)) .none 19 .none .false [] .false, .mk (.some 25) (.load 2 .true (.t
  3)) .none 20 .none .false [] .false, .mk (.some 26) (.call 18 [.t 24, .t 25]) .none 21 .none .false [] .false, .mk (.some 7) (.mv (.t 26)) .none 22 .none .false [] .false]) (.seq
  (.reg 23 2 [.mk (.some 27) (.mv (.t 7)) .none 23 .none .false [] .false, .mk (.some 28) (.bin .neq (.t 27) (.k (.int .i64 0))) .none 24 .none .false [] .false]) (.cond (.t 28)
  (.seq (.reg 25 12 [.mk (.some 29) (.mv (.t 6)) .none 25 .none .false [] .false, .mk (.some 30) (.mv (.t 7)) .none 26 .none .false [] .false, .mk (.some 31) (.bin .eql (.t 29) (.t
  30)) .none 27 .none .false [] .false, .mk (.some 32) (.mv (.t 31)) .none 28 .none .false [] .false, .mk (.some 33) (.mv (.t 5)) (.some (32, .true)) 29 .none .false [] .false, .mk
  (.some 34) (.len (.t 33)) (.some (32, .true)) 30 .none .false [] .false, .mk (.some 35) (.bin .eql (.t 34) (.k (.int .i64 0))) (.some (32, .true)) 31 .none .false [] .false, .mk
  (.some 36) (.pick (.t 32) (.t 35) (.k (.bool .false))) .none 32 .none .false [] .false, .mk (.some 37) (.mv (.t 36)) .none 33 .none .false [] .false, .mk (.some 38) (.call 14 [])
  (.some (37, .true)) 34 .none .false [] .false, .mk (.some 39) (.pick (.t 37) (.t 38) (.k (.bool .false))) .none 35 .none .false [] .false, .mk (.some 4) (.mv (.t 39)) .none 36
  .none .false [] .false]) .ret) .skip))) (.seq (.reg 37 1 [.mk (.some 8) (.mv (.k (.slice .none 0 0))) .none 37 .none .false [] .false]) (.seq (.reg 38 4 [.mk (.some 40) (.load 3
  .true (.t 2)) .none 38 .none .false [] .false, .mk (.some 41) (.load 2 .true (.t 3)) .none 39 .none .false [] .false, .mk (.some 42) (.call 19 [.t 40, .t 41]) .none 40 .none
  .false [] .false, .mk (.some 9) (.mv (.t 42)) .none 41 .none .false [] .false]) (.seq (.seq (.reg 42 1 [.mk (.some 10) (.mv (.k (.int .i64 0))) .none 42 .none .false [] .false])
  (.block 0 (.loop (.seq (.seq (.reg 43 4 [.mk (.some 43) (.mv (.t 10)) .none 43 .none .false [] .false, .mk (.some 44) (.mv (.t 9)) .none 44 .none .false [] .false, .mk (.some 45)
  (.len (.t 44)) .none 45 .none .false [] .false, .mk (.some 46) (.bin .lss (.t 43) (.t 45)) .none 46 .none .false [] .false]) (.cond (.t 46) .skip (.exit 0))) (.seq (.block 1
  (.draw 47 15 [] [] [.mk (.some 49) (.mv (.t 8)) .none 47 (.some []) .true [] .false, .mk (.some 50) (.mv (.t 9)) .none 48 (.some []) .true [] .false, .mk (.some 51) (.mv (.t 10))
  .none 49 (.some []) .true [] .false, .mk (.some 52) (.iaddr 2 (.t 50) (.t 51)) .none 50 (.some []) .true [] .false, .mk (.some 53) (.faddr 0 (.t 52)) .none 51 (.some []) .true []
  .false, .mk (.some 54) (.load 1 .false (.t 53)) .none 52 (.some []) .true [] .false, .mk (.some 55) (.mv (.t 9)) .none 53 (.some []) .true [] .false, .mk (.some 56) (.mv (.t 10))
  .none 54 (.some []) .true [] .false, .mk (.some 57) (.iaddr 2 (.t 55) (.t 56)) .none 55 (.some []) .true [] .false, .mk (.some 58) (.faddr 1 (.t 57)) .none 56 (.some []) .true []
  .false, .mk (.some 59) (.load 1 .false (.t 58)) .none 57 (.some []) .true [] .false, .mk (.some 60) (.bld [(0, 1), (1, 1)] [.int .i64 0, .slice .none 0 0] [(0, .t 54), (1, .t
  59)]) .none 58 (.some []) .true [] .false, .mk (.some 61) (.bsl 47 2 1 [.int .i64 0, .slice .none 0 0] [(0, .t 60)]) .none 59 (.some []) .true [] .false, .mk (.some 62) (.app 47 2
  32 (.t 49) (.t 61)) .none 60 (.some [59]) .true [] .false, .mk (.some 8) (.mv (.t 62)) .none 61 (.some [59, 60]) .true [] .false])) (.reg 62 3 [.mk (.some 47) (.mv (.t 10)) .none
  62 .none .false [] .false, .mk (.some 48) (.bin .add (.t 47) (.k (.int .i64 1))) .none 63 .none .false [] .false, .mk (.some 10) (.mv (.t 48)) .none 64 .none .false []
  .false])))))) (.seq (.reg 65 11 [.mk (.some 63) (.mv (.t 6)) .none 65 .none .false [] .false, .mk (.some 64) (.bin .eql (.t 63) (.k (.int .i64 0))) .none 66 .none .false []
  .false, .mk (.some 65) (.mv (.t 64)) .none 67 .none .false [] .false, .mk (.some 66) (.mv (.t 5)) (.some (65, .true)) 68 .none .false [] .false, .mk (.some 67) (.mv (.t 8)) (.some
  (65, .true)) 69 .none .false [] .false, .mk (.some 68) (.call 20 [.t 66, .t 67]) (.some (65, .true)) 70 .none .false [] .false, .mk (.some 69) (.pick (.t 65) (.t 68) (.k (.bool
  .false))) .none 71 .none .false [] .false, .mk (.some 70) (.mv (.t 69)) .none 72 .none .false [] .false, .mk (.some 71) (.call 14 []) (.some (70, .true)) 73 .none .false []
  .false, .mk (.some 72) (.pick (.t 70) (.t 71) (.k (.bool .false))) .none 74 .none .false [] .false, .mk (.some 4) (.mv (.t 72)) .none 75 .none .false [] .false]) .ret)))))))
def rs3 : List IRes := [.tmp 4]
set_option maxRecDepth 100000 in
theorem comp3 : Comp Try.prog 3 ir3 rs3 73 := ⟨⟨_, _, 76, Try.func3, rfl, by kernel_rfl, by kernel_rfl, rfl⟩⟩
def ir4 : IC :=
  .seq (.reg 0 3 [.mk (.some 2) (.box 25 (.t 0)) .none 0 .none .false [] .false, .mk (.some 3) (.box 28 (.t 1)) .none 1 .none .false [] .false, .mk (.some 4) (.mv (.k (.bool .false)))
  .none 2 .none .false [] .false]) (.seq (.seq (.reg 3 4 [.mk (.some 10) (.load 3 .true (.t 2)) .none 3 .none .false [] .false, .mk (.some 11) (.load 2 .true (.t 3)) .none 4 .none
  .false [] .false, .mk (.some 12) (.call 13 [.t 10, .t 11]) .none 5 .none .false [] .false, .mk (.some 13) (.un .not (.t 12)) .none 6 .none .false [] .false]) (.cond (.t 13) (.seq
  (.reg 7 2 [.mk (.some 14) (.call 14 []) .none 7 .none .false [] .false, .mk (.some 4) (.mv (.t 14)) .none 8 .none .false [] .false]) .ret) .skip)) (.seq (.draw 9 10 [3, 2] [] [.mk
  (.some 16) (.load 3 .true (.t 2)) .none 9 (.some []) .true [] .false, .mk (.some 17) (.call 16 [.t 16]) .none 10 (.some []) .true [] .false, .mk (.some 18) (.load 2 .true (.t 3))
  .none 11 (.some []) .true [] .false, .mk (.some 19) (.call 17 [.t 18]) .none 12 (.some [10]) .false [] .false, .mk (.some 20) (.call 21 [.t 17, .t 19]) .none 13 (.some [12, 10])
  .false [] .false, .mk (.some 15) (.mv (.t 20)) .none 14 (.some [10, 12, 13]) .true [] .false, .mk (.some 21) (.ext (.t 15) 0) .none 15 (.some [13, 12, 10]) .true [] .false, .mk
  (.some 22) (.ext (.t 15) 1) .none 16 (.some [13, 12, 10]) .true [] .false, .mk (.some 5) (.mv (.t 21)) .none 17 (.some [10, 12, 13]) .true [] .false, .mk (.some 6) (.mv (.t 22))
  .none 18 (.some [10, 12, 13]) .true [] .false]) (.seq (.seq (.reg 19 4 [.mk (.some 23) (.load 3 .true (.t 2)) .none 19 .none .false [] .false, .mk (.some 24) (.load 2 .true (.t
  3)) .none 20 .none .false [] .false, .mk (.some 25) (.call 18 [.t 23, .t 24]) .none 21 .none .false [] .false, .mk (.some 7) (.mv (.t 25)) .none 22 .none .false [] .false]) (.seq
  (.reg 23 2 [.mk (.some 26) (.mv (.t 7)) .none 23 .none .false [] .false, .mk (.some 27) (.bin .neq (.t 26) (.k (.int .i64 0))) .none 24 .none .false [] .false]) (.cond (.t 27)
  (.seq (.reg 25 12 [.mk (.some 28) (.mv (.t 6)) .none 25 .none .false [] .false, .mk (.some 29) (.mv (.t 7)) .none 26 .none .false [] .false, .mk (.some 30) (.bin .eql (.t 28) (.t
  29)) .none 27 .none .false [] .false, .mk (.some 31) (.mv (.t 30)) .none 28 .none .false [] .false, .mk (.some 32) (.mv (.t 5)) (.some (31, .true)) 29 .none .false [] .false, .mk
  (.some 33) (.len (.t 32)) (.some (31, .true)) 30 .none .false [] .false, .mk (.some 34) (.bin .eql (.t 33) (.k (.int .i64 0))) (.some (31, .true)) 31 .none .false [] .false, .mk
  (.some 35) (.pick (.t 31) (.t 34) (.k (.bool .false))) .none 32 .none .false [] .false, .mk (.some 36) (.mv (.t 35)) .none 33 .none .false [] .false, .mk (.some 37) (.call 14 [])
  (.some (36, .true)) 34 .none .false [] .false, .mk (.some 38) (.pick (.t 36) (.t 37) (.k (.bool .false))) .none 35 .none .false [] .false, .mk (.some 4) (.mv (.t 38)) .none 36
  .none .false [] .false]) .ret) .skip))) (.seq (.reg 37 4 [.mk (.some 39) (.load 3 .true (.t 2)) .none 37 .none .false [] .false, .mk (.some 40) (.load 2 .true (.t 3)) .none 38
  .none .false [] .false, .mk (.some 41) (.call 22 [.t 39, .t 40]) .none 39 .none .false [] .false, .mk (.some 8) (.mv (.t 41)) .none 40 .none .false [] .false]) (.seq (.seq (.reg
  41 9 [.mk (.some 42) (.mv (.t 6)) .none 41 .none .false [] .false, .mk (.some 43) (.bin .neq (.t 42) (.k (.int .i64 0))) .none 42 .none .false [] .false, .mk (.some 44) (.mv (.t
  43)) .none 43 .none .false [] .false, .mk (.some 45) (.mv (.t 5)) (.some (44, .false)) 44 .none .false [] .false, .mk (.some 46) (.len (.t 45)) (.some (44, .false)) 45 .none
  .false [] .false, .mk (.some 47) (.mv (.t 8)) (.some (44, .false)) 46 .none .false [] .false, .mk (.some 48) (.len (.t 47)) (.some (44, .false)) 47 .none .false [] .false, .mk
  (.some 49) (.bin .neq (.t 46) (.t 48)) (.some (44, .false)) 48 .none .false [] .false, .mk (.some 50) (.pick (.t 44) (.k (.bool .true)) (.t 49)) .none 49 .none .false [] .false])
  (.cond (.t 50) (.seq (.reg 50 1 [.mk (.some 4) (.mv (.k (.bool .false))) .none 50 .none .false [] .false]) .ret) .skip)) (.seq (.seq (.reg 51 1 [.mk (.some 9) (.mv (.k (.int .i64
  0))) .none 51 .none .false [] .false]) (.block 0 (.loop (.seq (.seq (.reg 52 4 [.mk (.some 51) (.mv (.t 9)) .none 52 .none .false [] .false, .mk (.some 52) (.mv (.t 8)) .none 53
  .none .false [] .false, .mk (.some 53) (.len (.t 52)) .none 54 .none .false [] .false, .mk (.some 54) (.bin .lss (.t 51) (.t 53)) .none 55 .none .false [] .false]) (.cond (.t 54)
  .skip (.exit 0))) (.seq (.block 1 (.seq (.draw 56 21 [] [] [.mk (.some 57) (.mv (.t 5)) .none 56 (.some []) .true [] .false, .mk (.some 58) (.mv (.t 9)) .none 57 (.some []) .true
  [] .false, .mk (.some 59) (.iaddr 3 (.t 57) (.t 58)) .none 58 (.some []) .true [] .false, .mk (.some 60) (.load 3 .true (.t 59)) .none 59 (.some []) .true [] .false, .mk (.some
  61) (.mv (.t 8)) .none 60 (.some []) .true [] .false, .mk (.some 62) (.mv (.t 9)) .none 61 (.some []) .true [] .false, .mk (.some 63) (.iaddr 3 (.t 61) (.t 62)) .none 62 (.some
  []) .true [] .false, .mk (.some 64) (.faddr 0 (.t 63)) .none 63 (.some []) .true [] .false, .mk (.some 65) (.load 1 .false (.t 64)) .none 64 (.some []) .true [] .false, .mk (.some
  66) (.mv (.t 8)) .none 65 (.some []) .true [] .false, .mk (.some 67) (.mv (.t 9)) .none 66 (.some []) .true [] .false, .mk (.some 68) (.iaddr 3 (.t 66) (.t 67)) .none 67 (.some
  []) .true [] .false, .mk (.some 69) (.faddr 1 (.t 68)) .none 68 (.some []) .true [] .false, .mk (.some 70) (.load 1 .false (.t 69)) .none 69 (.some []) .true [] .false, .mk (.some
  71) (.mv (.t 8)) .none 70 (.some []) .true [] .false, .mk (.some 72) (.mv (.t 9)) .none 71 (.some []) .true [] .false, .mk (.some 73) (.iaddr 3 (.t 71) (.t 72)) .none 72 (.some
  []) .true [] .false, .mk (.some 74) (.faddr 2 (.t 73)) .none 73 (.some []) .true [] .false, .mk (.some 75) (.load 1 .false (.t 74)) .none 74 (.some []) .true [] .false, .mk (.some
  76) (.bld [(0, 1), (1, 1), (2, 1)] [.int .i64 0, .int .i64 0, .int .i64 0] [(0, .t 65), (1, .t 70), (2, .t 75)]) .none 75 (.some []) .true [] .false, .mk (.some 77) (.pur (.bin
  .neq 55) [.t 60, .t 76]) .none 76 (.some []) .true [] .false]) (.cond (.t 77) (.seq (.reg 77 1 [.mk (.some 4) (.mv (.k (.bool .false))) .none 77 .none .false [] .false]) .ret)
  .skip))) (.reg 78 3 [.mk (.some 55) (.mv (.t 9)) .none 78 .none .false [] .false, .mk (.some 56) (.bin .add (.t 55) (.k (.int .i64 1))) .none 79 .none .false [] .false, .mk (.some
  9) (.mv (.t 56)) .none 80 .none .false [] .false])))))) (.seq (.reg 81 2 [.mk (.some 78) (.call 14 []) .none 81 .none .false [] .false, .mk (.some 4) (.mv (.t 78)) .none 82 .none
  .false [] .false]) .ret)))))))
def rs4 : List IRes := [.tmp 4]
set_option maxRecDepth 100000 in
theorem comp4 : Comp Try.prog 4 ir4 rs4 79 := ⟨⟨_, _, 83, Try.func4, rfl, by kernel_rfl, by kernel_rfl, rfl⟩⟩
def ir5 : IC :=
  .seq (.reg 0 3 [.mk (.some 4) (.box 25 (.t 0)) .none 0 .none .false [] .false, .mk (.some 5) (.box 28 (.t 1)) .none 1 .none .false [] .false, .mk (.some 8) (.mv (.k (.bool .false)))
  .none 2 .none .false [] .false]) (.seq (.seq (.reg 3 4 [.mk (.some 18) (.load 3 .true (.t 4)) .none 3 .none .false [] .false, .mk (.some 19) (.load 2 .true (.t 5)) .none 4 .none
  .false [] .false, .mk (.some 20) (.call 23 [.t 18, .t 19]) .none 5 .none .false [] .false, .mk (.some 21) (.un .not (.t 20)) .none 6 .none .false [] .false]) (.cond (.t 21) (.seq
  (.reg 7 2 [.mk (.some 22) (.call 14 []) .none 7 .none .false [] .false, .mk (.some 8) (.mv (.t 22)) .none 8 .none .false [] .false]) .ret) .skip)) (.seq (.reg 9 11 [.mk (.some 23)
  (.faddr 0 (.t 5)) .none 9 .none .false [] .false, .mk (.some 24) (.load 1 .false (.t 23)) .none 10 .none .false [] .false, .mk (.some 25) (.mv (.t 2)) .none 11 .none .false []
  .false, .mk (.some 26) (.conv .i64 (.t 25)) .none 12 .none .false [] .false, .mk (.some 27) (.bin .add (.t 24) (.t 26)) .none 13 .none .false [] .false, .mk (.some 28) (.mm .false
  (.k (.int .i64 9999)) (.t 27)) .none 14 .none .false [] .false, .mk (.some 29) (.faddr 1 (.t 5)) .none 15 .none .false [] .false, .mk (.some 30) (.load 1 .false (.t 29)) .none 16
  .none .false [] .false, .mk (.some 31) (.bld [(0, 1), (1, 1)] [.int .i64 0, .slice .none 0 0] [(0, .t 28), (1, .t 30)]) .none 17 .none .false [] .false, .mk (.some 9) (.alloc 28
  [.int .i64 0, .slice .none 0 0]) .none 18 .none .false [] .false, .mk .none (.store 2 (.t 9) (.t 31)) .none 19 .none .false [] .false]) (.seq (.reg 20 1 [.mk (.some 10) (.mv (.k
  (.slice .none 0 0))) .none 20 .none .false [] .false]) (.seq (.seq (.reg 21 1 [.mk (.some 11) (.mv (.k (.int .i64 0))) .none 21 .none .false [] .false]) (.block 0 (.loop (.seq
  (.seq (.reg 22 2 [.mk (.some 32) (.mv (.t 11)) .none 22 .none .false [] .false, .mk (.some 33) (.bin .lss (.t 32) (.k (.int .i64 8))) .none 23 .none .false [] .false]) (.cond (.t
  33) .skip (.exit 0))) (.seq (.block 1 (.seq (.reg 24 11 [.mk (.some 36) (.faddr 1 (.t 5)) .none 24 .none .false [] .false, .mk (.some 37) (.load 1 .false (.t 36)) .none 25 .none
  .false [] .false, .mk (.some 38) (.mv (.t 11)) .none 26 .none .false [] .false, .mk (.some 39) (.call 24 [.t 37, .t 38]) .none 27 .none .false [] .false, .mk (.some 40) (.mv (.t
  39)) .none 28 .none .false [] .false, .mk (.some 41) (.mv (.t 11)) (.some (40, .false)) 29 .none .false [] .false, .mk (.some 42) (.mv (.t 3)) (.some (40, .false)) 30 .none .false
  [] .false, .mk (.some 43) (.conv .i64 (.t 42)) (.some (40, .false)) 31 .none .false [] .false, .mk (.some 44) (.bin .rem (.t 43) (.k (.int .i64 8))) (.some (40, .false)) 32 .none
  .false [] .false, .mk (.some 45) (.bin .eql (.t 41) (.t 44)) (.some (40, .false)) 33 .none .false [] .false, .mk (.some 46) (.pick (.t 40) (.k (.bool .true)) (.t 45)) .none 34
  .none .false [] .false]) (.cond (.t 46) (.reg 35 5 [.mk (.some 47) (.mv (.t 10)) .none 35 .none .false [] .false, .mk (.some 48) (.mv (.t 11)) .none 36 .none .false [] .false, .mk
  (.some 49) (.bsl 3 1 1 [.int .i64 0] [(0, .t 48)]) .none 37 .none .false [] .false, .mk (.some 50) (.app 3 1 8 (.t 47) (.t 49)) .none 38 .none .false [] .false, .mk (.some 10)
  (.mv (.t 50)) .none 39 .none .false [] .false]) .skip))) (.reg 40 3 [.mk (.some 34) (.mv (.t 11)) .none 40 .none .false [] .false, .mk (.some 35) (.bin .add (.t 34) (.k (.int .i64
  1))) .none 41 .none .false [] .false, .mk (.some 11) (.mv (.t 35)) .none 42 .none .false [] .false])))))) (.seq (.draw 43 10 [5, 4] [] [.mk (.some 52) (.load 3 .true (.t 4)) .none
  43 (.some []) .true [] .false, .mk (.some 53) (.call 16 [.t 52]) .none 44 (.some []) .true [] .false, .mk (.some 54) (.load 2 .true (.t 5)) .none 45 (.some []) .true [] .false,
  .mk (.some 55) (.call 17 [.t 54]) .none 46 (.some [44]) .false [] .false, .mk (.some 56) (.call 21 [.t 53, .t 55]) .none 47 (.some [46, 44]) .false [] .false, .mk (.some 51) (.mv
  (.t 56)) .none 48 (.some [44, 46, 47]) .true [] .false, .mk (.some 57) (.ext (.t 51) 0) .none 49 (.some [47, 46, 44]) .true [] .false, .mk (.some 58) (.ext (.t 51) 1) .none 50
  (.some [47, 46, 44]) .true [] .false, .mk (.some 12) (.mv (.t 57)) .none 51 (.some [44, 46, 47]) .true [] .false, .mk (.some 13) (.mv (.t 58)) .none 52 (.some [44, 46, 47]) .true
  [] .false]) (.seq (.draw 53 10 [9, 4] [] [.mk (.some 60) (.load 3 .true (.t 4)) .none 53 (.some []) .true [] .false, .mk (.some 61) (.call 16 [.t 60]) .none 54 (.some []) .true []
  .false, .mk (.some 62) (.load 2 .true (.t 9)) .none 55 (.some []) .true [] .false, .mk (.some 63) (.call 17 [.t 62]) .none 56 (.some [54]) .false [] .false, .mk (.some 64) (.call
  21 [.t 61, .t 63]) .none 57 (.some [56, 54]) .false [] .false, .mk (.some 59) (.mv (.t 64)) .none 58 (.some [54, 56, 57]) .true [] .false, .mk (.some 65) (.ext (.t 59) 0) .none 59
  (.some [57, 56, 54]) .true [] .false, .mk (.some 66) (.ext (.t 59) 1) .none 60 (.some [57, 56, 54]) .true [] .false, .mk (.some 14) (.mv (.t 65)) .none 61 (.some [54, 56, 57])
  .true [] .false, .mk (.some 15) (.mv (.t 66)) .none 62 (.some [54, 56, 57]) .true [] .false]) (.seq (.draw 63 12 [10, 5, 4] [] [.mk (.some 68) (.load 3 .true (.t 4)) .none 63
  (.some []) .true [] .false, .mk (.some 69) (.call 16 [.t 68]) .none 64 (.some []) .true [] .false, .mk (.some 70) (.faddr 0 (.t 5)) .none 65 (.some []) .true [] .false, .mk (.some
  71) (.load 1 .false (.t 70)) .none 66 (.some []) .true [] .false, .mk (.some 72) (.mv (.t 10)) .none 67 (.some []) .true [] .false, .mk (.some 73) (.bld [(0, 1), (1, 1)] [.int
  .i64 0, .slice .none 0 0] [(0, .t 71), (1, .t 72)]) .none 68 (.some []) .true [] .false, .mk (.some 74) (.call 21 [.t 69, .t 73]) .none 69 (.some [64]) .false [] .false, .mk
  (.some 67) (.mv (.t 74)) .none 70 (.some [64, 69]) .true [] .false, .mk (.some 75) (.ext (.t 67) 0) .none 71 (.some [69, 64]) .true [] .false, .mk (.some 76) (.ext (.t 67) 1)
  .none 72 (.some [69, 64]) .true [] .false, .mk (.some 16) (.mv (.t 75)) .none 73 (.some [64, 69]) .true [] .false, .mk (.some 17) (.mv (.t 76)) .none 74 (.some [64, 69]) .true []
  .false]) (.seq (.reg 75 38 [.mk (.some 77) (.mv (.t 13)) .none 75 .none .false [] .false, .mk (.some 78) (.bin .eql (.t 77) (.k (.int .i64 0))) .none 76 .none .false [] .false,
  .mk (.some 79) (.mv (.t 78)) .none 77 .none .false [] .false, .mk (.some 80) (.mv (.t 15)) (.some (79, .true)) 78 .none .false [] .false, .mk (.some 81) (.bin .eql (.t 80) (.k
  (.int .i64 0))) (.some (79, .true)) 79 .none .false [] .false, .mk (.some 82) (.pick (.t 79) (.t 81) (.k (.bool .false))) .none 80 .none .false [] .false, .mk (.some 83) (.mv (.t
  82)) .none 81 .none .false [] .false, .mk (.some 84) (.mv (.t 17)) (.some (83, .true)) 82 .none .false [] .false, .mk (.some 85) (.bin .eql (.t 84) (.k (.int .i64 0))) (.some (83,
  .true)) 83 .none .false [] .false, .mk (.some 86) (.pick (.t 83) (.t 85) (.k (.bool .false))) .none 84 .none .false [] .false, .mk (.some 87) (.mv (.t 86)) .none 85 .none .false
  [] .false, .mk (.some 88) (.mv (.t 14)) (.some (87, .true)) 86 .none .false [] .false, .mk (.some 89) (.mv (.t 12)) (.some (87, .true)) 87 .none .false [] .false, .mk (.some 90)
  (.call 25 [.t 88, .t 89]) (.some (87, .true)) 88 .none .false [] .false, .mk (.some 91) (.pick (.t 87) (.t 90) (.k (.bool .false))) .none 89 .none .false [] .false, .mk (.some 92)
  (.mv (.t 91)) .none 90 .none .false [] .false, .mk (.some 93) (.mv (.t 16)) (.some (92, .true)) 91 .none .false [] .false, .mk (.some 94) (.mv (.t 12)) (.some (92, .true)) 92
  .none .false [] .false, .mk (.some 95) (.call 25 [.t 93, .t 94]) (.some (92, .true)) 93 .none .false [] .false, .mk (.some 96) (.pick (.t 92) (.t 95) (.k (.bool .false))) .none 94
  .none .false [] .false, .mk (.some 97) (.mv (.t 96)) .none 95 .none .false [] .false, .mk (.some 98) (.mv (.t 14)) (.some (97, .true)) 96 .none .false [] .false, .mk (.some 99)
  (.call 26 [.t 98]) (.some (97, .true)) 97 .none .false [] .false, .mk (.some 100) (.mv (.t 12)) (.some (97, .true)) 98 .none .false [] .false, .mk (.some 101) (.call 26 [.t 100])
  (.some (97, .true)) 99 .none .false [] .false, .mk (.some 102) (.bin .leq (.t 99) (.t 101)) (.some (97, .true)) 100 .none .false [] .false, .mk (.some 103) (.pick (.t 97) (.t 102)
  (.k (.bool .false))) .none 101 .none .false [] .false, .mk (.some 104) (.mv (.t 103)) .none 102 .none .false [] .false, .mk (.some 105) (.mv (.t 16)) (.some (104, .true)) 103
  .none .false [] .false, .mk (.some 106) (.call 26 [.t 105]) (.some (104, .true)) 104 .none .false [] .false, .mk (.some 107) (.mv (.t 12)) (.some (104, .true)) 105 .none .false []
  .false, .mk (.some 108) (.call 26 [.t 107]) (.some (104, .true)) 106 .none .false [] .false, .mk (.some 109) (.bin .leq (.t 106) (.t 108)) (.some (104, .true)) 107 .none .false []
  .false, .mk (.some 110) (.pick (.t 104) (.t 109) (.k (.bool .false))) .none 108 .none .false [] .false, .mk (.some 111) (.mv (.t 110)) .none 109 .none .false [] .false, .mk (.some
  112) (.call 14 []) (.some (111, .true)) 110 .none .false [] .false, .mk (.some 113) (.pick (.t 111) (.t 112) (.k (.bool .false))) .none 111 .none .false [] .false, .mk (.some 8)
  (.mv (.t 113)) .none 112 .none .false [] .false]) .ret))))))))
def rs5 : List IRes := [.tmp 8]
set_option maxRecDepth 100000 in
theorem comp5 : Comp Try.prog 5 ir5 rs5 114 := ⟨⟨_, _, 113, Try.func5, rfl, by kernel_rfl, by kernel_rfl, rfl⟩⟩
def ir6 : IC :=
  .seq (.reg 0 3 [.mk (.some 4) (.box 25 (.t 0)) .none 0 .none .false [] .false, .mk (.some 5) (.box 28 (.t 1)) .none 1 .none .false [] .false, .mk (.some 8) (.mv (.k (.bool .false)))
  .none 2 .none .false [] .false]) (.seq (.seq (.reg 3 4 [.mk (.some 19) (.load 3 .true (.t 4)) .none 3 .none .false [] .false, .mk (.some 20) (.load 2 .true (.t 5)) .none 4 .none
  .false [] .false, .mk (.some 21) (.call 23 [.t 19, .t 20]) .none 5 .none .false [] .false, .mk (.some 22) (.un .not (.t 21)) .none 6 .none .false [] .false]) (.cond (.t 22) (.seq
  (.reg 7 2 [.mk (.some 23) (.call 14 []) .none 7 .none .false [] .false, .mk (.some 8) (.mv (.t 23)) .none 8 .none .false [] .false]) .ret) .skip)) (.seq (.draw 9 10 [5, 4] [] [.mk
  (.some 25) (.load 3 .true (.t 4)) .none 9 (.some []) .true [] .false, .mk (.some 26) (.call 16 [.t 25]) .none 10 (.some []) .true [] .false, .mk (.some 27) (.load 2 .true (.t 5))
  .none 11 (.some []) .true [] .false, .mk (.some 28) (.call 17 [.t 27]) .none 12 (.some [10]) .false [] .false, .mk (.some 29) (.call 21 [.t 26, .t 28]) .none 13 (.some [12, 10])
  .false [] .false, .mk (.some 24) (.mv (.t 29)) .none 14 (.some [10, 12, 13]) .true [] .false, .mk (.some 30) (.ext (.t 24) 0) .none 15 (.some [13, 12, 10]) .true [] .false, .mk
  (.some 31) (.ext (.t 24) 1) .none 16 (.some [13, 12, 10]) .true [] .false, .mk (.some 9) (.mv (.t 30)) .none 17 (.some [10, 12, 13]) .true [] .false, .mk (.some 10) (.mv (.t 31))
  .none 18 (.some [10, 12, 13]) .true [] .false]) (.seq (.seq (.reg 19 2 [.mk (.some 32) (.mv (.t 10)) .none 19 .none .false [] .false, .mk (.some 33) (.bin .neq (.t 32) (.k (.int
  .i64 0))) .none 20 .none .false [] .false]) (.cond (.t 33) (.seq (.reg 21 1 [.mk (.some 8) (.mv (.k (.bool .false))) .none 21 .none .false [] .false]) .ret) .skip)) (.seq (.seq
  (.reg 22 3 [.mk (.some 34) (.mv (.t 9)) .none 22 .none .false [] .false, .mk (.some 35) (.len (.t 34)) .none 23 .none .false [] .false, .mk (.some 36) (.bin .eql (.t 35) (.k (.int
  .i64 0))) .none 24 .none .false [] .false]) (.cond (.t 36) (.seq (.reg 25 2 [.mk (.some 37) (.call 14 []) .none 25 .none .false [] .false, .mk (.some 8) (.mv (.t 37)) .none 26
  .none .false [] .false]) .ret) .skip)) (.seq (.reg 27 10 [.mk (.some 38) (.mv (.t 9)) .none 27 .none .false [] .false, .mk (.some 39) (.mv (.t 2)) .none 28 .none .false [] .false,
  .mk (.some 40) (.conv .i64 (.t 39)) .none 29 .none .false [] .false, .mk (.some 41) (.mv (.t 9)) .none 30 .none .false [] .false, .mk (.some 42) (.len (.t 41)) .none 31 .none
  .false [] .false, .mk (.some 43) (.bin .rem (.t 40) (.t 42)) .none 32 .none .false [] .false, .mk (.some 44) (.iaddr 3 (.t 38) (.t 43)) .none 33 .none .false [] .false, .mk (.some
  45) (.load 3 .true (.t 44)) .none 34 .none .false [] .false, .mk (.some 11) (.alloc 55 [.int .i64 0, .int .i64 0, .int .i64 0]) .none 35 .none .false [] .false, .mk .none (.store
  3 (.t 11) (.t 45)) .none 36 .none .false [] .false]) (.seq (.seq (.reg 37 30 [.mk (.some 46) (.faddr 0 (.t 11)) .none 37 .none .false [] .false, .mk (.some 47) (.load 1 .false (.t
  46)) .none 38 .none .false [] .false, .mk (.some 48) (.bin .lss (.t 47) (.k (.int .i64 0))) .none 39 .none .false [] .false, .mk (.some 49) (.mv (.t 48)) .none 40 .none .false []
  .false, .mk (.some 50) (.faddr 1 (.t 11)) (.some (49, .false)) 41 .none .false [] .false, .mk (.some 51) (.load 1 .false (.t 50)) (.some (49, .false)) 42 .none .false [] .false,
  .mk (.some 52) (.faddr 0 (.t 11)) (.some (49, .false)) 43 .none .false [] .false, .mk (.some 53) (.load 1 .false (.t 52)) (.some (49, .false)) 44 .none .false [] .false, .mk
  (.some 54) (.bin .leq (.t 51) (.t 53)) (.some (49, .false)) 45 .none .false [] .false, .mk (.some 55) (.pick (.t 49) (.k (.bool .true)) (.t 54)) .none 46 .none .false [] .false,
  .mk (.some 56) (.mv (.t 55)) .none 47 .none .false [] .false, .mk (.some 57) (.faddr 1 (.t 11)) (.some (56, .false)) 48 .none .false [] .false, .mk (.some 58) (.load 1 .false (.t
  57)) (.some (56, .false)) 49 .none .false [] .false, .mk (.some 59) (.faddr 0 (.t 4)) (.some (56, .false)) 50 .none .false [] .false, .mk (.some 60) (.load 1 .false (.t 59))
  (.some (56, .false)) 51 .none .false [] .false, .mk (.some 61) (.len (.t 60)) (.some (56, .false)) 52 .none .false [] .false, .mk (.some 62) (.bin .gtr (.t 58) (.t 61)) (.some
  (56, .false)) 53 .none .false [] .false, .mk (.some 63) (.pick (.t 56) (.k (.bool .true)) (.t 62)) .none 54 .none .false [] .false, .mk (.some 64) (.mv (.t 63)) .none 55 .none
  .false [] .false, .mk (.some 65) (.faddr 2 (.t 11)) (.some (64, .false)) 56 .none .false [] .false, .mk (.some 66) (.load 1 .false (.t 65)) (.some (64, .false)) 57 .none .false []
  .false, .mk (.some 67) (.faddr 0 (.t 5)) (.some (64, .false)) 58 .none .false [] .false, .mk (.some 68) (.load 1 .false (.t 67)) (.some (64, .false)) 59 .none .false [] .false,
  .mk (.some 69) (.bin .leq (.t 66) (.t 68)) (.some (64, .false)) 60 .none .false [] .false, .mk (.some 70) (.pick (.t 64) (.k (.bool .true)) (.t 69)) .none 61 .none .false []
  .false, .mk (.some 71) (.mv (.t 70)) .none 62 .none .false [] .false, .mk (.some 72) (.faddr 2 (.t 11)) (.some (71, .false)) 63 .none .false [] .false, .mk (.some 73) (.load 1
  .false (.t 72)) (.some (71, .false)) 64 .none .false [] .false, .mk (.some 74) (.bin .gtr (.t 73) (.k (.int .i64 9999))) (.some (71, .false)) 65 .none .false [] .false, .mk (.some
  75) (.pick (.t 71) (.k (.bool .true)) (.t 74)) .none 66 .none .false [] .false]) (.cond (.t 75) (.seq (.reg 67 1 [.mk (.some 8) (.mv (.k (.bool .false))) .none 67 .none .false []
  .false]) .ret) .skip)) (.seq (.draw 68 15 [5, 4] [] [.mk (.some 77) (.load 3 .true (.t 4)) .none 68 (.some []) .true [] .false, .mk (.some 78) (.call 16 [.t 77]) .none 69 (.some
  []) .true [] .false, .mk (.some 79) (.faddr 2 (.t 11)) .none 70 (.some []) .true [] .false, .mk (.some 80) (.load 1 .false (.t 79)) .none 71 (.some []) .true [] .false, .mk (.some
  81) (.bin .sub (.t 80) (.k (.int .i64 1))) .none 72 (.some []) .true [] .false, .mk (.some 82) (.faddr 1 (.t 5)) .none 73 (.some []) .true [] .false, .mk (.some 83) (.load 1
  .false (.t 82)) .none 74 (.some []) .true [] .false, .mk (.some 84) (.call 27 [.t 83]) .none 75 (.some [69]) .false [] .false, .mk (.some 85) (.bld [(0, 1), (1, 1)] [.int .i64 0,
  .slice .none 0 0] [(0, .t 81), (1, .t 84)]) .none 76 (.some [69, 75]) .true [] .false, .mk (.some 86) (.call 21 [.t 78, .t 85]) .none 77 (.some [75, 69]) .false [] .false, .mk
  (.some 76) (.mv (.t 86)) .none 78 (.some [69, 75, 77]) .true [] .false, .mk (.some 87) (.ext (.t 76) 0) .none 79 (.some [77, 75, 69]) .true [] .false, .mk (.some 88) (.ext (.t 76)
  1) .none 80 (.some [77, 75, 69]) .true [] .false, .mk (.some 12) (.mv (.t 87)) .none 81 (.some [69, 75, 77]) .true [] .false, .mk (.some 13) (.mv (.t 88)) .none 82 (.some [69, 75,
  77]) .true [] .false]) (.seq (.draw 83 18 [5, 4] [] [.mk (.some 90) (.load 3 .true (.t 4)) .none 83 (.some []) .true [] .false, .mk (.some 91) (.call 16 [.t 90]) .none 84 (.some
  []) .true [] .false, .mk (.some 92) (.faddr 2 (.t 11)) .none 85 (.some []) .true [] .false, .mk (.some 93) (.load 1 .false (.t 92)) .none 86 (.some []) .true [] .false, .mk (.some
  94) (.mv (.t 3)) .none 87 (.some []) .true [] .false, .mk (.some 95) (.conv .i64 (.t 94)) .none 88 (.some []) .true [] .false, .mk (.some 96) (.bin .add (.t 93) (.t 95)) .none 89
  (.some []) .true [] .false, .mk (.some 97) (.mm .false (.k (.int .i64 9999)) (.t 96)) .none 90 (.some []) .true [] .false, .mk (.some 98) (.faddr 1 (.t 5)) .none 91 (.some [])
  .true [] .false, .mk (.some 99) (.load 1 .false (.t 98)) .none 92 (.some []) .true [] .false, .mk (.some 100) (.call 27 [.t 99]) .none 93 (.some [84]) .false [] .false, .mk (.some
  101) (.bld [(0, 1), (1, 1)] [.int .i64 0, .slice .none 0 0] [(0, .t 97), (1, .t 100)]) .none 94 (.some [84, 93]) .true [] .false, .mk (.some 102) (.call 21 [.t 91, .t 101]) .none
  95 (.some [93, 84]) .false [] .false, .mk (.some 89) (.mv (.t 102)) .none 96 (.some [84, 93, 95]) .true [] .false, .mk (.some 103) (.ext (.t 89) 0) .none 97 (.some [95, 93, 84])
  .true [] .false, .mk (.some 104) (.ext (.t 89) 1) .none 98 (.some [95, 93, 84]) .true [] .false, .mk (.some 14) (.mv (.t 103)) .none 99 (.some [84, 93, 95]) .true [] .false, .mk
  (.some 15) (.mv (.t 104)) .none 100 (.some [84, 93, 95]) .true [] .false]) (.seq (.seq (.reg 101 6 [.mk (.some 105) (.mv (.t 13)) .none 101 .none .false [] .false, .mk (.some 106)
  (.bin .neq (.t 105) (.k (.int .i64 0))) .none 102 .none .false [] .false, .mk (.some 107) (.mv (.t 106)) .none 103 .none .false [] .false, .mk (.some 108) (.mv (.t 15)) (.some
  (107, .false)) 104 .none .false [] .false, .mk (.some 109) (.bin .neq (.t 108) (.k (.int .i64 0))) (.some (107, .false)) 105 .none .false [] .false, .mk (.some 110) (.pick (.t
  107) (.k (.bool .true)) (.t 109)) .none 106 .none .false [] .false]) (.cond (.t 110) (.seq (.reg 107 1 [.mk (.some 8) (.mv (.k (.bool .false))) .none 107 .none .false [] .false])
  .ret) .skip)) (.seq (.reg 108 1 [.mk (.some 16) (.mv (.k (.bool .false))) .none 108 .none .false [] .false]) (.seq (.seq (.reg 109 1 [.mk (.some 17) (.mv (.k (.int .i64 0))) .none
  109 .none .false [] .false]) (.block 0 (.loop (.seq (.seq (.reg 110 4 [.mk (.some 111) (.mv (.t 17)) .none 110 .none .false [] .false, .mk (.some 112) (.mv (.t 12)) .none 111
  .none .false [] .false, .mk (.some 113) (.len (.t 112)) .none 112 .none .false [] .false, .mk (.some 114) (.bin .lss (.t 111) (.t 113)) .none 113 .none .false [] .false]) (.cond
  (.t 114) .skip (.exit 0))) (.seq (.block 1 (.draw 114 22 [] [] [.mk (.some 117) (.mv (.t 16)) .none 114 (.some []) .true [] .false, .mk (.some 118) (.mv (.t 117)) .none 115 (.some
  []) .true [] .false, .mk (.some 119) (.mv (.t 12)) (.some (118, .false)) 116 (.some []) .true [] .false, .mk (.some 120) (.mv (.t 17)) (.some (118, .false)) 117 (.some []) .true
  [] .false, .mk (.some 121) (.iaddr 3 (.t 119) (.t 120)) (.some (118, .false)) 118 (.some []) .true [] .false, .mk (.some 122) (.faddr 0 (.t 121)) (.some (118, .false)) 119 (.some
  []) .true [] .false, .mk (.some 123) (.load 1 .false (.t 122)) (.some (118, .false)) 120 (.some []) .true [] .false, .mk (.some 124) (.faddr 1 (.t 11)) (.some (118, .false)) 121
  (.some []) .true [] .false, .mk (.some 125) (.load 1 .false (.t 124)) (.some (118, .false)) 122 (.some []) .true [] .false, .mk (.some 126) (.bin .lss (.t 123) (.t 125)) (.some
  (118, .false)) 123 (.some []) .true [] .false, .mk (.some 127) (.mv (.t 126)) (.some (118, .false)) 124 (.some []) .true [] .false, .mk (.some 128) (.faddr 0 (.t 11)) (.some (127,
  .true)) 125 (.some []) .true [] .false, .mk (.some 129) (.load 1 .false (.t 128)) (.some (127, .true)) 126 (.some []) .true [] .false, .mk (.some 130) (.mv (.t 12)) (.some (127,
  .true)) 127 (.some []) .true [] .false, .mk (.some 131) (.mv (.t 17)) (.some (127, .true)) 128 (.some []) .true [] .false, .mk (.some 132) (.iaddr 3 (.t 130) (.t 131)) (.some
  (127, .true)) 129 (.some []) .true [] .false, .mk (.some 133) (.faddr 1 (.t 132)) (.some (127, .true)) 130 (.some []) .true [] .false, .mk (.some 134) (.load 1 .false (.t 133))
  (.some (127, .true)) 131 (.some []) .true [] .false, .mk (.some 135) (.bin .lss (.t 129) (.t 134)) (.some (127, .true)) 132 (.some []) .true [] .false, .mk (.some 136) (.pick (.t
  127) (.t 135) (.k (.bool .false))) (.some (118, .false)) 133 (.some []) .true [] .false, .mk (.some 137) (.pick (.t 118) (.k (.bool .true)) (.t 136)) .none 134 (.some []) .true []
  .false, .mk (.some 16) (.mv (.t 137)) .none 135 (.some []) .true [] .false])) (.reg 136 3 [.mk (.some 115) (.mv (.t 17)) .none 136 .none .false [] .false, .mk (.some 116) (.bin
  .add (.t 115) (.k (.int .i64 1))) .none 137 .none .false [] .false, .mk (.some 17) (.mv (.t 116)) .none 138 .none .false [] .false])))))) (.seq (.seq (.reg 139 1 [.mk (.some 18)
  (.mv (.k (.int .i64 0))) .none 139 .none .false [] .false]) (.block 2 (.loop (.seq (.seq (.reg 140 4 [.mk (.some 138) (.mv (.t 18)) .none 140 .none .false [] .false, .mk (.some
  139) (.mv (.t 14)) .none 141 .none .false [] .false, .mk (.some 140) (.len (.t 139)) .none 142 .none .false [] .false, .mk (.some 141) (.bin .lss (.t 138) (.t 140)) .none 143
  .none .false [] .false]) (.cond (.t 141) .skip (.exit 2))) (.seq (.block 3 (.seq (.draw 144 18 [] [] [.mk (.some 144) (.mv (.t 14)) .none 144 (.some []) .true [] .false, .mk
  (.some 145) (.mv (.t 18)) .none 145 (.some []) .true [] .false, .mk (.some 146) (.iaddr 3 (.t 144) (.t 145)) .none 146 (.some []) .true [] .false, .mk (.some 147) (.faddr 0 (.t
  146)) .none 147 (.some []) .true [] .false, .mk (.some 148) (.load 1 .false (.t 147)) .none 148 (.some []) .true [] .false, .mk (.some 149) (.faddr 1 (.t 11)) .none 149 (.some [])
  .true [] .false, .mk (.some 150) (.load 1 .false (.t 149)) .none 150 (.some []) .true [] .false, .mk (.some 151) (.bin .lss (.t 148) (.t 150)) .none 151 (.some []) .true []
  .false, .mk (.some 152) (.mv (.t 151)) .none 152 (.some []) .true [] .false, .mk (.some 153) (.faddr 0 (.t 11)) (.some (152, .true)) 153 (.some []) .true [] .false, .mk (.some
  154) (.load 1 .false (.t 153)) (.some (152, .true)) 154 (.some []) .true [] .false, .mk (.some 155) (.mv (.t 14)) (.some (152, .true)) 155 (.some []) .true [] .false, .mk (.some
  156) (.mv (.t 18)) (.some (152, .true)) 156 (.some []) .true [] .false, .mk (.some 157) (.iaddr 3 (.t 155) (.t 156)) (.some (152, .true)) 157 (.some []) .true [] .false, .mk
  (.some 158) (.faddr 1 (.t 157)) (.some (152, .true)) 158 (.some []) .true [] .false, .mk (.some 159) (.load 1 .false (.t 158)) (.some (152, .true)) 159 (.some []) .true [] .false,
  .mk (.some 160) (.bin .lss (.t 154) (.t 159)) (.some (152, .true)) 160 (.some []) .true [] .false, .mk (.some 161) (.pick (.t 152) (.t 160) (.k (.bool .false))) .none 161 (.some
  []) .true [] .false]) (.cond (.t 161) (.seq (.reg 162 1 [.mk (.some 8) (.mv (.k (.bool .false))) .none 162 .none .false [] .false]) .ret) .skip))) (.reg 163 3 [.mk (.some 142)
  (.mv (.t 18)) .none 163 .none .false [] .false, .mk (.some 143) (.bin .add (.t 142) (.k (.int .i64 1))) .none 164 .none .false [] .false, .mk (.some 18) (.mv (.t 143)) .none 165
  .none .false [] .false])))))) (.seq (.reg 166 5 [.mk (.some 162) (.mv (.t 16)) .none 166 .none .false [] .false, .mk (.some 163) (.mv (.t 162)) .none 167 .none .false [] .false,
  .mk (.some 164) (.call 14 []) (.some (163, .true)) 168 .none .false [] .false, .mk (.some 165) (.pick (.t 163) (.t 164) (.k (.bool .false))) .none 169 .none .false [] .false, .mk
  (.some 8) (.mv (.t 165)) .none 170 .none .false [] .false]) .ret)))))))))))))
def rs6 : List IRes := [.tmp 8]
set_option maxRecDepth 100000 in
theorem comp6 : Comp Try.prog 6 ir6 rs6 166 := ⟨⟨_, _, 171, Try.func6, rfl, by kernel_rfl, by kernel_rfl, rfl⟩⟩
def ir8 : IC :=
  .seq (.reg 0 3 [.mk (.some 3) (.box 25 (.t 0)) .none 0 .none .false [] .false, .mk (.some 4) (.box 28 (.t 1)) .none 1 .none .false [] .false, .mk (.some 6) (.mv (.k (.bool .false)))
  .none 2 .none .false [] .false]) (.seq (.seq (.reg 3 4 [.mk (.some 17) (.load 3 .true (.t 3)) .none 3 .none .false [] .false, .mk (.some 18) (.load 2 .true (.t 4)) .none 4 .none
  .false [] .false, .mk (.some 19) (.call 13 [.t 17, .t 18]) .none 5 .none .false [] .false, .mk (.some 20) (.un .not (.t 19)) .none 6 .none .false [] .false]) (.cond (.t 20) (.seq
  (.reg 7 2 [.mk (.some 21) (.call 14 []) .none 7 .none .false [] .false, .mk (.some 6) (.mv (.t 21)) .none 8 .none .false [] .false]) .ret) .skip)) (.seq (.reg 9 4 [.mk (.some 22)
  (.load 3 .true (.t 3)) .none 9 .none .false [] .false, .mk (.some 23) (.call 16 [.t 22]) .none 10 .none .false [] .false, .mk (.some 24) (.call 30 [.t 23]) .none 11 .none .false
  [] .false, .mk (.some 7) (.mv (.t 24)) .none 12 .none .false [] .false]) (.seq (.draw 13 10 [4, 3] [] [.mk (.some 26) (.load 3 .true (.t 3)) .none 13 (.some []) .true [] .false,
  .mk (.some 27) (.call 16 [.t 26]) .none 14 (.some []) .true [] .false, .mk (.some 28) (.load 2 .true (.t 4)) .none 15 (.some []) .true [] .false, .mk (.some 29) (.call 17 [.t 28])
  .none 16 (.some [14]) .false [] .false, .mk (.some 30) (.call 28 [.t 27, .t 29]) .none 17 (.some [16, 14]) .false [] .false, .mk (.some 25) (.mv (.t 30)) .none 18 (.some [14, 16,
  17]) .true [] .false, .mk (.some 31) (.ext (.t 25) 0) .none 19 (.some [17, 16, 14]) .true [] .false, .mk (.some 32) (.ext (.t 25) 1) .none 20 (.some [17, 16, 14]) .true [] .false,
  .mk (.some 8) (.mv (.t 31)) .none 21 (.some [14, 16, 17]) .true [] .false, .mk (.some 9) (.mv (.t 32)) .none 22 (.some [14, 16, 17]) .true [] .false]) (.seq (.draw 23 11 [2, 4, 3]
  [] [.mk (.some 34) (.load 3 .true (.t 3)) .none 23 (.some []) .true [] .false, .mk (.some 35) (.call 16 [.t 34]) .none 24 (.some []) .true [] .false, .mk (.some 36) (.load 2 .true
  (.t 4)) .none 25 (.some []) .true [] .false, .mk (.some 37) (.call 17 [.t 36]) .none 26 (.some [24]) .false [] .false, .mk (.some 38) (.mv (.t 2)) .none 27 (.some []) .true []
  .false, .mk (.some 39) (.call 31 [.t 35, .t 37, .t 38]) .none 28 (.some [26, 24]) .false [] .false, .mk (.some 33) (.mv (.t 39)) .none 29 (.some [24, 26, 28]) .true [] .false, .mk
  (.some 40) (.ext (.t 33) 0) .none 30 (.some [28, 26, 24]) .true [] .false, .mk (.some 41) (.ext (.t 33) 1) .none 31 (.some [28, 26, 24]) .true [] .false, .mk (.some 10) (.mv (.t
  40)) .none 32 (.some [24, 26, 28]) .true [] .false, .mk (.some 11) (.mv (.t 41)) .none 33 (.some [24, 26, 28]) .true [] .false]) (.seq (.seq (.reg 34 4 [.mk (.some 42) (.mv (.t
  7)) .none 34 .none .false [] .false, .mk (.some 43) (.load 3 .true (.t 3)) .none 35 .none .false [] .false, .mk (.some 44) (.call 32 [.t 43]) .none 36 .none .false [] .false, .mk
  (.some 45) (.bin .neq (.t 42) (.t 44)) .none 37 .none .false [] .false]) (.cond (.t 45) (.seq (.reg 38 1 [.mk (.some 6) (.mv (.k (.bool .false))) .none 38 .none .false [] .false])
  .ret) .skip)) (.seq (.seq (.reg 39 4 [.mk (.some 46) (.load 3 .true (.t 3)) .none 39 .none .false [] .false, .mk (.some 47) (.load 2 .true (.t 4)) .none 40 .none .false [] .false,
  .mk (.some 48) (.call 18 [.t 46, .t 47]) .none 41 .none .false [] .false, .mk (.some 12) (.mv (.t 48)) .none 42 .none .false [] .false]) (.seq (.reg 43 2 [.mk (.some 49) (.mv (.t
  12)) .none 43 .none .false [] .false, .mk (.some 50) (.bin .neq (.t 49) (.k (.int .i64 0))) .none 44 .none .false [] .false]) (.cond (.t 50) (.seq (.reg 45 21 [.mk (.some 51) (.mv
  (.t 9)) .none 45 .none .false [] .false, .mk (.some 52) (.mv (.t 12)) .none 46 .none .false [] .false, .mk (.some 53) (.bin .eql (.t 51) (.t 52)) .none 47 .none .false [] .false,
  .mk (.some 54) (.mv (.t 53)) .none 48 .none .false [] .false, .mk (.some 55) (.mv (.t 11)) (.some (54, .true)) 49 .none .false [] .false, .mk (.some 56) (.mv (.t 12)) (.some (54,
  .true)) 50 .none .false [] .false, .mk (.some 57) (.bin .eql (.t 55) (.t 56)) (.some (54, .true)) 51 .none .false [] .false, .mk (.some 58) (.pick (.t 54) (.t 57) (.k (.bool
  .false))) .none 52 .none .false [] .false, .mk (.some 59) (.mv (.t 58)) .none 53 .none .false [] .false, .mk (.some 60) (.mv (.t 8)) (.some (59, .true)) 54 .none .false [] .false,
  .mk (.some 61) (.len (.t 60)) (.some (59, .true)) 55 .none .false [] .false, .mk (.some 62) (.bin .eql (.t 61) (.k (.int .i64 0))) (.some (59, .true)) 56 .none .false [] .false,
  .mk (.some 63) (.pick (.t 59) (.t 62) (.k (.bool .false))) .none 57 .none .false [] .false, .mk (.some 64) (.mv (.t 63)) .none 58 .none .false [] .false, .mk (.some 65) (.mv (.t
  10)) (.some (64, .true)) 59 .none .false [] .false, .mk (.some 66) (.bin .eql (.t 65) (.k (.int .i64 0))) (.some (64, .true)) 60 .none .false [] .false, .mk (.some 67) (.pick (.t
  64) (.t 66) (.k (.bool .false))) .none 61 .none .false [] .false, .mk (.some 68) (.mv (.t 67)) .none 62 .none .false [] .false, .mk (.some 69) (.call 14 []) (.some (68, .true)) 63
  .none .false [] .false, .mk (.some 70) (.pick (.t 68) (.t 69) (.k (.bool .false))) .none 64 .none .false [] .false, .mk (.some 6) (.mv (.t 70)) .none 65 .none .false [] .false])
  .ret) .skip))) (.seq (.reg 66 4 [.mk (.some 71) (.load 3 .true (.t 3)) .none 66 .none .false [] .false, .mk (.some 72) (.load 2 .true (.t 4)) .none 67 .none .false [] .false, .mk
  (.some 73) (.call 33 [.t 71, .t 72]) .none 68 .none .false [] .false, .mk (.some 13) (.mv (.t 73)) .none 69 .none .false [] .false]) (.seq (.seq (.reg 70 15 [.mk (.some 74) (.mv
  (.t 2)) .none 70 .none .false [] .false, .mk (.some 75) (.bin .lss (.t 74) (.k (.int .i64 0))) .none 71 .none .false [] .false, .mk (.some 76) (.mv (.t 75)) .none 72 .none .false
  [] .false, .mk (.some 77) (.mv (.t 2)) (.some (76, .false)) 73 .none .false [] .false, .mk (.some 78) (.mv (.t 13)) (.some (76, .false)) 74 .none .false [] .false, .mk (.some 79)
  (.len (.t 78)) (.some (76, .false)) 75 .none .false [] .false, .mk (.some 80) (.bin .geq (.t 77) (.t 79)) (.some (76, .false)) 76 .none .false [] .false, .mk (.some 81) (.pick (.t
  76) (.k (.bool .true)) (.t 80)) .none 77 .none .false [] .false, .mk (.some 82) (.mv (.t 81)) .none 78 .none .false [] .false, .mk (.some 83) (.mv (.t 13)) (.some (82, .false)) 79
  .none .false [] .false, .mk (.some 84) (.mv (.t 2)) (.some (82, .false)) 80 .none .false [] .false, .mk (.some 85) (.iaddr 1 (.t 83) (.t 84)) (.some (82, .false)) 81 .none .false
  [] .false, .mk (.some 86) (.load 1 .false (.t 85)) (.some (82, .false)) 82 .none .false [] .false, .mk (.some 87) (.bin .lss (.t 86) (.k (.int .i64 0))) (.some (82, .false)) 83
  .none .false [] .false, .mk (.some 88) (.pick (.t 82) (.k (.bool .true)) (.t 87)) .none 84 .none .false [] .false]) (.cond (.t 88) (.seq (.reg 85 6 [.mk (.some 89) (.mv (.t 11))
  .none 85 .none .false [] .false, .mk (.some 90) (.bin .neq (.t 89) (.k (.int .i64 7))) .none 86 .none .false [] .false, .mk (.some 91) (.mv (.t 90)) .none 87 .none .false []
  .false, .mk (.some 92) (.mv (.t 10)) (.some (91, .false)) 88 .none .false [] .false, .mk (.some 93) (.bin .neq (.t 92) (.k (.int .i64 0))) (.some (91, .false)) 89 .none .false []
  .false, .mk (.some 94) (.pick (.t 91) (.k (.bool .true)) (.t 93)) .none 90 .none .false [] .false]) (.cond (.t 94) (.seq (.reg 91 1 [.mk (.some 6) (.mv (.k (.bool .false))) .none
  91 .none .false [] .false]) .ret) .skip)) (.seq (.reg 92 10 [.mk (.some 95) (.mv (.t 11)) .none 92 .none .false [] .false, .mk (.some 96) (.bin .neq (.t 95) (.k (.int .i64 0)))
  .none 93 .none .false [] .false, .mk (.some 97) (.mv (.t 96)) .none 94 .none .false [] .false, .mk (.some 98) (.mv (.t 10)) (.some (97, .false)) 95 .none .false [] .false, .mk
  (.some 99) (.mv (.t 13)) (.some (97, .false)) 96 .none .false [] .false, .mk (.some 100) (.mv (.t 2)) (.some (97, .false)) 97 .none .false [] .false, .mk (.some 101) (.iaddr 1 (.t
  99) (.t 100)) (.some (97, .false)) 98 .none .false [] .false, .mk (.some 102) (.load 1 .false (.t 101)) (.some (97, .false)) 99 .none .false [] .false, .mk (.some 103) (.bin .neq
  (.t 98) (.t 102)) (.some (97, .false)) 100 .none .false [] .false, .mk (.some 104) (.pick (.t 97) (.k (.bool .true)) (.t 103)) .none 101 .none .false [] .false]) (.cond (.t 104)
  (.seq (.reg 102 1 [.mk (.some 6) (.mv (.k (.bool .false))) .none 102 .none .false [] .false]) .ret) .skip)))) (.seq (.reg 103 1 [.mk (.some 14) (.mv (.k (.slice .none 0 0))) .none
  103 .none .false [] .false]) (.seq (.reg 104 4 [.mk (.some 105) (.load 3 .true (.t 3)) .none 104 .none .false [] .false, .mk (.some 106) (.load 2 .true (.t 4)) .none 105 .none
  .false [] .false, .mk (.some 107) (.call 34 [.t 105, .t 106]) .none 106 .none .false [] .false, .mk (.some 15) (.mv (.t 107)) .none 107 .none .false [] .false]) (.seq (.seq (.reg
  108 1 [.mk (.some 16) (.mv (.k (.int .i64 0))) .none 108 .none .false [] .false]) (.block 0 (.loop (.seq (.seq (.reg 109 4 [.mk (.some 108) (.mv (.t 16)) .none 109 .none .false []
  .false, .mk (.some 109) (.mv (.t 15)) .none 110 .none .false [] .false, .mk (.some 110) (.len (.t 109)) .none 111 .none .false [] .false, .mk (.some 111) (.bin .lss (.t 108) (.t
  110)) .none 112 .none .false [] .false]) (.cond (.t 111) .skip (.exit 0))) (.seq (.block 1 (.draw 113 15 [] [] [.mk (.some 114) (.mv (.t 14)) .none 113 (.some []) .true [] .false,
  .mk (.some 115) (.mv (.t 15)) .none 114 (.some []) .true [] .false, .mk (.some 116) (.mv (.t 16)) .none 115 (.some []) .true [] .false, .mk (.some 117) (.iaddr 2 (.t 115) (.t
  116)) .none 116 (.some []) .true [] .false, .mk (.some 118) (.faddr 0 (.t 117)) .none 117 (.some []) .true [] .false, .mk (.some 119) (.load 1 .false (.t 118)) .none 118 (.some
  []) .true [] .false, .mk (.some 120) (.mv (.t 15)) .none 119 (.some []) .true [] .false, .mk (.some 121) (.mv (.t 16)) .none 120 (.some []) .true [] .false, .mk (.some 122)
  (.iaddr 2 (.t 120) (.t 121)) .none 121 (.some []) .true [] .false, .mk (.some 123) (.faddr 1 (.t 122)) .none 122 (.some []) .true [] .false, .mk (.some 124) (.load 1 .false (.t
  123)) .none 123 (.some []) .true [] .false, .mk (.some 125) (.bld [(0, 1), (1, 1)] [.string (ByteArray.mk (Array.mk [])), .int .i64 0] [(0, .t 119), (1, .t 124)]) .none 124 (.some
  []) .true [] .false, .mk (.some 126) (.bsl 79 2 1 [.string (ByteArray.mk (Array.mk [])), .int .i64 0] [(0, .t 125)]) .none 125 (.some []) .true [] .false, .mk (.some 127) (.app 79
  2 24 (.t 114) (.t 126)) .none 126 (.some [125]) .true [] .false, .mk (.some 14) (.mv (.t 127)) .none 127 (.some [125, 126]) .true [] .false])) (.reg 128 3 [.mk (.some 112) (.mv
  (.t 16)) .none 128 .none .false [] .false, .mk (.some 113) (.bin .add (.t 112) (.k (.int .i64 1))) .none 129 .none .false [] .false, .mk (.some 16) (.mv (.t 113)) .none 130 .none
  .false [] .false])))))) (.seq (.reg 131 11 [.mk (.some 128) (.mv (.t 9)) .none 131 .none .false [] .false, .mk (.some 129) (.bin .eql (.t 128) (.k (.int .i64 0))) .none 132 .none
  .false [] .false, .mk (.some 130) (.mv (.t 129)) .none 133 .none .false [] .false, .mk (.some 131) (.mv (.t 8)) (.some (130, .true)) 134 .none .false [] .false, .mk (.some 132)
  (.mv (.t 14)) (.some (130, .true)) 135 .none .false [] .false, .mk (.some 133) (.call 29 [.t 131, .t 132]) (.some (130, .true)) 136 .none .false [] .false, .mk (.some 134) (.pick
  (.t 130) (.t 133) (.k (.bool .false))) .none 137 .none .false [] .false, .mk (.some 135) (.mv (.t 134)) .none 138 .none .false [] .false, .mk (.some 136) (.call 14 []) (.some
  (135, .true)) 139 .none .false [] .false, .mk (.some 137) (.pick (.t 135) (.t 136) (.k (.bool .false))) .none 140 .none .false [] .false, .mk (.some 6) (.mv (.t 137)) .none 141
  .none .false [] .false]) .ret))))))))))))
def rs8 : List IRes := [.tmp 6]
set_option maxRecDepth 100000 in
theorem comp8 : Comp Try.prog 8 ir8 rs8 138 := ⟨⟨_, _, 142, Try.func8, rfl, by kernel_rfl, by kernel_rfl, rfl⟩⟩
def ir9 : IC :=
  .seq (.reg 0 3 [.mk (.some 2) (.box 25 (.t 0)) .none 0 .none .false [] .false, .mk (.some 3) (.box 28 (.t 1)) .none 1 .none .false [] .false, .mk (.some 4) (.mv (.k (.bool .false)))
  .none 2 .none .false [] .false]) (.seq (.seq (.reg 3 4 [.mk (.some 11) (.load 3 .true (.t 2)) .none 3 .none .false [] .false, .mk (.some 12) (.load 2 .true (.t 3)) .none 4 .none
  .false [] .false, .mk (.some 13) (.call 23 [.t 11, .t 12]) .none 5 .none .false [] .false, .mk (.some 14) (.un .not (.t 13)) .none 6 .none .false [] .false]) (.cond (.t 14) (.seq
  (.reg 7 2 [.mk (.some 15) (.call 14 []) .none 7 .none .false [] .false, .mk (.some 4) (.mv (.t 15)) .none 8 .none .false [] .false]) .ret) .skip)) (.seq (.draw 9 10 [3, 2] [] [.mk
  (.some 17) (.load 3 .true (.t 2)) .none 9 (.some []) .true [] .false, .mk (.some 18) (.call 16 [.t 17]) .none 10 (.some []) .true [] .false, .mk (.some 19) (.load 2 .true (.t 3))
  .none 11 (.some []) .true [] .false, .mk (.some 20) (.call 17 [.t 19]) .none 12 (.some [10]) .false [] .false, .mk (.some 21) (.call 28 [.t 18, .t 20]) .none 13 (.some [12, 10])
  .false [] .false, .mk (.some 16) (.mv (.t 21)) .none 14 (.some [10, 12, 13]) .true [] .false, .mk (.some 22) (.ext (.t 16) 0) .none 15 (.some [13, 12, 10]) .true [] .false, .mk
  (.some 23) (.ext (.t 16) 1) .none 16 (.some [13, 12, 10]) .true [] .false, .mk (.some 5) (.mv (.t 22)) .none 17 (.some [10, 12, 13]) .true [] .false, .mk (.some 6) (.mv (.t 23))
  .none 18 (.some [10, 12, 13]) .true [] .false]) (.seq (.seq (.reg 19 10 [.mk (.some 24) (.mv (.t 6)) .none 19 .none .false [] .false, .mk (.some 25) (.bin .neq (.t 24) (.k (.int
  .i64 0))) .none 20 .none .false [] .false, .mk (.some 26) (.mv (.t 25)) .none 21 .none .false [] .false, .mk (.some 27) (.mv (.t 5)) (.some (26, .false)) 22 .none .false []
  .false, .mk (.some 28) (.len (.t 27)) (.some (26, .false)) 23 .none .false [] .false, .mk (.some 29) (.faddr 0 (.t 2)) (.some (26, .false)) 24 .none .false [] .false, .mk (.some
  30) (.load 1 .false (.t 29)) (.some (26, .false)) 25 .none .false [] .false, .mk (.some 31) (.len (.t 30)) (.some (26, .false)) 26 .none .false [] .false, .mk (.some 32) (.bin
  .gtr (.t 28) (.t 31)) (.some (26, .false)) 27 .none .false [] .false, .mk (.some 33) (.pick (.t 26) (.k (.bool .true)) (.t 32)) .none 28 .none .false [] .false]) (.cond (.t 33)
  (.seq (.reg 29 1 [.mk (.some 4) (.mv (.k (.bool .false))) .none 29 .none .false [] .false]) .ret) .skip)) (.seq (.reg 30 1 [.mk (.some 7) (.mv (.k (.int .i64 0))) .none 30 .none
  .false [] .false]) (.seq (.seq (.reg 31 1 [.mk (.some 8) (.mv (.k (.int .i64 0))) .none 31 .none .false [] .false]) (.block 0 (.loop (.seq (.seq (.reg 32 4 [.mk (.some 34) (.mv
  (.t 8)) .none 32 .none .false [] .false, .mk (.some 35) (.mv (.t 5)) .none 33 .none .false [] .false, .mk (.some 36) (.len (.t 35)) .none 34 .none .false [] .false, .mk (.some 37)
  (.bin .lss (.t 34) (.t 36)) .none 35 .none .false [] .false]) (.cond (.t 37) .skip (.exit 0))) (.seq (.block 1 (.seq (.seq (.draw 36 11 [] [] [.mk (.some 40) (.mv (.t 5)) .none 36
  (.some []) .true [] .false, .mk (.some 41) (.mv (.t 8)) .none 37 (.some []) .true [] .false, .mk (.some 42) (.iaddr 2 (.t 40) (.t 41)) .none 38 (.some []) .true [] .false, .mk
  (.some 43) (.faddr 1 (.t 42)) .none 39 (.some []) .true [] .false, .mk (.some 44) (.load 1 .false (.t 43)) .none 40 (.some []) .true [] .false, .mk (.some 45) (.mv (.t 8)) .none
  41 (.some []) .true [] .false, .mk (.some 46) (.faddr 2 (.t 2)) .none 42 (.some []) .true [] .false, .mk (.some 47) (.load 1 .false (.t 46)) .none 43 (.some []) .true [] .false,
  .mk (.some 48) (.bin .quo (.t 45) (.t 47)) .none 44 (.some []) .true [] .false, .mk (.some 49) (.bin .add (.t 48) (.k (.int .i64 1))) .none 45 (.some []) .true [] .false, .mk
  (.some 50) (.bin .neq (.t 44) (.t 49)) .none 46 (.some []) .true [] .false]) (.cond (.t 50) (.seq (.reg 47 1 [.mk (.some 4) (.mv (.k (.bool .false))) .none 47 .none .false []
  .false]) .ret) .skip)) (.seq (.draw 48 11 [8, 3, 2] [] [.mk (.some 52) (.load 3 .true (.t 2)) .none 48 (.some []) .true [] .false, .mk (.some 53) (.call 16 [.t 52]) .none 49
  (.some []) .true [] .false, .mk (.some 54) (.load 2 .true (.t 3)) .none 50 (.some []) .true [] .false, .mk (.some 55) (.call 17 [.t 54]) .none 51 (.some [49]) .false [] .false,
  .mk (.some 56) (.mv (.t 8)) .none 52 (.some []) .true [] .false, .mk (.some 57) (.call 31 [.t 53, .t 55, .t 56]) .none 53 (.some [51, 49]) .false [] .false, .mk (.some 51) (.mv
  (.t 57)) .none 54 (.some [49, 51, 53]) .true [] .false, .mk (.some 58) (.ext (.t 51) 0) .none 55 (.some [53, 51, 49]) .true [] .false, .mk (.some 59) (.ext (.t 51) 1) .none 56
  (.some [53, 51, 49]) .true [] .false, .mk (.some 9) (.mv (.t 58)) .none 57 (.some [49, 51, 53]) .true [] .false, .mk (.some 10) (.mv (.t 59)) .none 58 (.some [49, 51, 53]) .true
  [] .false]) (.seq (.seq (.reg 59 6 [.mk (.some 60) (.mv (.t 5)) .none 59 .none .false [] .false, .mk (.some 61) (.mv (.t 8)) .none 60 .none .false [] .false, .mk (.some 62)
  (.iaddr 2 (.t 60) (.t 61)) .none 61 .none .false [] .false, .mk (.some 63) (.faddr 0 (.t 62)) .none 62 .none .false [] .false, .mk (.some 64) (.load 1 .false (.t 63)) .none 63
  .none .false [] .false, .mk (.some 65) (.pur (.bin .eql 9) [.t 64, .k (.string (ByteArray.mk (Array.mk [])))]) .none 64 .none .false [] .false]) (.cond (.t 65) (.seq (.seq (.reg
  65 15 [.mk (.some 66) (.mv (.t 10)) .none 65 .none .false [] .false, .mk (.some 67) (.bin .neq (.t 66) (.k (.int .i64 7))) .none 66 .none .false [] .false, .mk (.some 68) (.mv (.t
  67)) .none 67 .none .false [] .false, .mk (.some 69) (.mv (.t 8)) (.some (68, .false)) 68 .none .false [] .false, .mk (.some 70) (.bin .gtr (.t 69) (.k (.int .i64 0))) (.some (68,
  .false)) 69 .none .false [] .false, .mk (.some 71) (.mv (.t 70)) (.some (68, .false)) 70 .none .false [] .false, .mk (.some 72) (.mv (.t 5)) (.some (71, .true)) 71 .none .false []
  .false, .mk (.some 73) (.mv (.t 8)) (.some (71, .true)) 72 .none .false [] .false, .mk (.some 74) (.bin .sub (.t 73) (.k (.int .i64 1))) (.some (71, .true)) 73 .none .false []
  .false, .mk (.some 75) (.iaddr 2 (.t 72) (.t 74)) (.some (71, .true)) 74 .none .false [] .false, .mk (.some 76) (.faddr 0 (.t 75)) (.some (71, .true)) 75 .none .false [] .false,
  .mk (.some 77) (.load 1 .false (.t 76)) (.some (71, .true)) 76 .none .false [] .false, .mk (.some 78) (.pur (.bin .eql 9) [.t 77, .k (.string (ByteArray.mk (Array.mk [])))])
  (.some (71, .true)) 77 .none .false [] .false, .mk (.some 79) (.pick (.t 71) (.t 78) (.k (.bool .false))) (.some (68, .false)) 78 .none .false [] .false, .mk (.some 80) (.pick (.t
  68) (.k (.bool .true)) (.t 79)) .none 79 .none .false [] .false]) (.cond (.t 80) (.seq (.reg 80 1 [.mk (.some 4) (.mv (.k (.bool .false))) .none 80 .none .false [] .false]) .ret)
  .skip)) (.exit 1)) .skip)) (.seq (.seq (.draw 81 34 [9, 3, 2] [] [.mk (.some 81) (.mv (.t 10)) .none 81 (.some []) .true [] .false, .mk (.some 82) (.bin .neq (.t 81) (.k (.int
  .i64 0))) .none 82 (.some []) .true [] .false, .mk (.some 83) (.mv (.t 82)) .none 83 (.some []) .true [] .false, .mk (.some 84) (.mv (.t 9)) (.some (83, .false)) 84 (.some [])
  .true [] .false, .mk (.some 85) (.mv (.t 7)) (.some (83, .false)) 85 (.some []) .true [] .false, .mk (.some 86) (.bin .lss (.t 84) (.t 85)) (.some (83, .false)) 86 (.some [])
  .true [] .false, .mk (.some 87) (.pick (.t 83) (.k (.bool .true)) (.t 86)) .none 87 (.some []) .true [] .false, .mk (.some 88) (.mv (.t 87)) .none 88 (.some []) .true [] .false,
  .mk (.some 89) (.mv (.t 9)) (.some (88, .false)) 89 (.some []) .true [] .false, .mk (.some 90) (.faddr 0 (.t 2)) (.some (88, .false)) 90 (.some []) .true [] .false, .mk (.some 91)
  (.load 1 .false (.t 90)) (.some (88, .false)) 91 (.some []) .true [] .false, .mk (.some 92) (.len (.t 91)) (.some (88, .false)) 92 (.some []) .true [] .false, .mk (.some 93) (.bin
  .geq (.t 89) (.t 92)) (.some (88, .false)) 93 (.some []) .true [] .false, .mk (.some 94) (.pick (.t 88) (.k (.bool .true)) (.t 93)) .none 94 (.some []) .true [] .false, .mk (.some
  95) (.mv (.t 94)) .none 95 (.some []) .true [] .false, .mk (.some 96) (.load 3 .true (.t 2)) (.some (95, .false)) 96 (.some []) .true [] .false, .mk (.some 97) (.load 2 .true (.t
  3)) (.some (95, .false)) 97 (.some []) .true [] .false, .mk (.some 98) (.mv (.t 9)) (.some (95, .false)) 98 (.some []) .true [] .false, .mk (.some 99) (.call 35 [.t 96, .t 97, .t
  98]) (.some (95, .false)) 99 (.some []) .true [] .false, .mk (.some 100) (.pick (.t 95) (.k (.bool .true)) (.t 99)) .none 100 (.some [99]) .true [] .false, .mk (.some 101) (.mv
  (.t 100)) .none 101 (.some [99]) .true [] .false, .mk (.some 102) (.mv (.t 5)) (.some (101, .false)) 102 (.some [99]) .true [] .false, .mk (.some 103) (.mv (.t 8)) (.some (101,
  .false)) 103 (.some [99]) .true [] .false, .mk (.some 104) (.iaddr 2 (.t 102) (.t 103)) (.some (101, .false)) 104 (.some [99]) .true [] .false, .mk (.some 105) (.faddr 0 (.t 104))
  (.some (101, .false)) 105 (.some [99]) .true [] .false, .mk (.some 106) (.load 1 .false (.t 105)) (.some (101, .false)) 106 (.some [99]) .false [] .false, .mk (.some 107) (.faddr
  0 (.t 2)) (.some (101, .false)) 107 (.some [99]) .true [] .false, .mk (.some 108) (.load 1 .false (.t 107)) (.some (101, .false)) 108 (.some [99]) .false [] .false, .mk (.some
  109) (.mv (.t 9)) (.some (101, .false)) 109 (.some [99]) .true [] .false, .mk (.some 110) (.iaddr 2 (.t 108) (.t 109)) (.some (101, .false)) 110 (.some [99]) .true [] .false, .mk
  (.some 111) (.faddr 0 (.t 110)) (.some (101, .false)) 111 (.some [99]) .true [] .false, .mk (.some 112) (.load 1 .false (.t 111)) (.some (101, .false)) 112 (.some [99]) .false []
  .false, .mk (.some 113) (.pur (.bin .neq 9) [.t 106, .t 112]) (.some (101, .false)) 113 (.some [99]) .true [] .false, .mk (.some 114) (.pick (.t 101) (.k (.bool .true)) (.t 113))
  .none 114 (.some [99]) .true [] .false]) (.cond (.t 114) (.seq (.reg 115 1 [.mk (.some 4) (.mv (.k (.bool .false))) .none 115 .none .false [] .false]) .ret) .skip)) (.seq (.block
  2 (.loop (.seq (.seq (.reg 116 3 [.mk (.some 115) (.mv (.t 7)) .none 116 .none .false [] .false, .mk (.some 116) (.mv (.t 9)) .none 117 .none .false [] .false, .mk (.some 117)
  (.bin .lss (.t 115) (.t 116)) .none 118 .none .false [] .false]) (.cond (.t 117) .skip (.exit 2))) (.block 3 (.seq (.seq (.reg 119 5 [.mk (.some 118) (.load 3 .true (.t 2)) .none
  119 .none .false [] .false, .mk (.some 119) (.load 2 .true (.t 3)) .none 120 .none .false [] .false, .mk (.some 120) (.mv (.t 7)) .none 121 .none .false [] .false, .mk (.some 121)
  (.call 35 [.t 118, .t 119, .t 120]) .none 122 .none .false [] .false, .mk (.some 122) (.un .not (.t 121)) .none 123 .none .false [] .false]) (.cond (.t 122) (.seq (.reg 124 1 [.mk
  (.some 4) (.mv (.k (.bool .false))) .none 124 .none .false [] .false]) .ret) .skip)) (.reg 125 3 [.mk (.some 123) (.mv (.t 7)) .none 125 .none .false [] .false, .mk (.some 124)
  (.bin .add (.t 123) (.k (.int .i64 1))) .none 126 .none .false [] .false, .mk (.some 7) (.mv (.t 124)) .none 127 .none .false [] .false])))))) (.reg 128 3 [.mk (.some 125) (.mv
  (.t 7)) .none 128 .none .false [] .false, .mk (.some 126) (.bin .add (.t 125) (.k (.int .i64 1))) .none 129 .none .false [] .false, .mk (.some 7) (.mv (.t 126)) .none 130 .none
  .false [] .false]))))))) (.reg 131 3 [.mk (.some 38) (.mv (.t 8)) .none 131 .none .false [] .false, .mk (.some 39) (.bin .add (.t 38) (.k (.int .i64 1))) .none 132 .none .false []
  .false, .mk (.some 8) (.mv (.t 39)) .none 133 .none .false [] .false])))))) (.seq (.block 4 (.loop (.seq (.seq (.reg 134 5 [.mk (.some 127) (.mv (.t 7)) .none 134 .none .false []
  .false, .mk (.some 128) (.faddr 0 (.t 2)) .none 135 .none .false [] .false, .mk (.some 129) (.load 1 .false (.t 128)) .none 136 .none .false [] .false, .mk (.some 130) (.len (.t
  129)) .none 137 .none .false [] .false, .mk (.some 131) (.bin .lss (.t 127) (.t 130)) .none 138 .none .false [] .false]) (.cond (.t 131) .skip (.exit 4))) (.block 5 (.seq (.seq
  (.reg 139 5 [.mk (.some 132) (.load 3 .true (.t 2)) .none 139 .none .false [] .false, .mk (.some 133) (.load 2 .true (.t 3)) .none 140 .none .false [] .false, .mk (.some 134) (.mv
  (.t 7)) .none 141 .none .false [] .false, .mk (.some 135) (.call 35 [.t 132, .t 133, .t 134]) .none 142 .none .false [] .false, .mk (.some 136) (.un .not (.t 135)) .none 143 .none
  .false [] .false]) (.cond (.t 136) (.seq (.reg 144 1 [.mk (.some 4) (.mv (.k (.bool .false))) .none 144 .none .false [] .false]) .ret) .skip)) (.reg 145 3 [.mk (.some 137) (.mv
  (.t 7)) .none 145 .none .false [] .false, .mk (.some 138) (.bin .add (.t 137) (.k (.int .i64 1))) .none 146 .none .false [] .false, .mk (.some 7) (.mv (.t 138)) .none 147 .none
  .false [] .false])))))) (.seq (.reg 148 2 [.mk (.some 139) (.call 14 []) .none 148 .none .false [] .false, .mk (.some 4) (.mv (.t 139)) .none 149 .none .false [] .false])
  .ret)))))))
def rs9 : List IRes := [.tmp 4]
set_option maxRecDepth 100000 in
theorem comp9 : Comp Try.prog 9 ir9 rs9 140 := ⟨⟨_, _, 150, Try.func9, rfl, by kernel_rfl, by kernel_rfl, rfl⟩⟩
def ir14 : IC :=
  .seq (.reg 0 1 [.mk (.some 0) (.mv (.k (.bool .false))) .none 0 .none .false [] .false]) (.seq (.reg 1 8 [.mk (.some 10) (.call 42 []) .none 1 .none .false [] .false, .mk (.some 11)
  (.call 43 [.k (.int .i64 1970), .k (.slice .none 0 0)]) .none 2 .none .false [] .false, .mk (.some 12) (.call 28 [.t 10, .t 11]) .none 3 .none .false [] .false, .mk (.some 9) (.mv
  (.t 12)) .none 4 .none .false [] .false, .mk (.some 13) (.ext (.t 9) 0) .none 5 .none .false [] .false, .mk (.some 14) (.ext (.t 9) 1) .none 6 .none .false [] .false, .mk (.some
  1) (.mv (.t 13)) .none 7 .none .false [] .false, .mk (.some 2) (.mv (.t 14)) .none 8 .none .false [] .false]) (.seq (.reg 9 9 [.mk (.some 16) (.call 42 []) .none 9 .none .false []
  .false, .mk (.some 17) (.bsl 3 1 1 [.int .i64 0] [(0, .k (.int .i64 1))]) .none 10 .none .false [] .false, .mk (.some 18) (.call 43 [.k (.int .i64 1970), .t 17]) .none 11 .none
  .false [] .false, .mk (.some 19) (.call 15 [.t 16, .t 18]) .none 12 .none .false [] .false, .mk (.some 15) (.mv (.t 19)) .none 13 .none .false [] .false, .mk (.some 20) (.ext (.t
  15) 0) .none 14 .none .false [] .false, .mk (.some 21) (.ext (.t 15) 1) .none 15 .none .false [] .false, .mk (.some 3) (.mv (.t 20)) .none 16 .none .false [] .false, .mk (.some 4)
  (.mv (.t 21)) .none 17 .none .false [] .false]) (.seq (.reg 18 8 [.mk (.some 23) (.call 42 []) .none 18 .none .false [] .false, .mk (.some 24) (.call 43 [.k (.int .i64 1970), .k
  (.slice .none 0 0)]) .none 19 .none .false [] .false, .mk (.some 25) (.call 21 [.t 23, .t 24]) .none 20 .none .false [] .false, .mk (.some 22) (.mv (.t 25)) .none 21 .none .false
  [] .false, .mk (.some 26) (.ext (.t 22) 0) .none 22 .none .false [] .false, .mk (.some 27) (.ext (.t 22) 1) .none 23 .none .false [] .false, .mk (.some 5) (.mv (.t 26)) .none 24
  .none .false [] .false, .mk (.some 6) (.mv (.t 27)) .none 25 .none .false [] .false]) (.seq (.reg 26 8 [.mk (.some 29) (.call 42 []) .none 26 .none .false [] .false, .mk (.some
  30) (.call 43 [.k (.int .i64 1970), .k (.slice .none 0 0)]) .none 27 .none .false [] .false, .mk (.some 31) (.call 37 [.t 29, .t 30]) .none 28 .none .false [] .false, .mk (.some
  28) (.mv (.t 31)) .none 29 .none .false [] .false, .mk (.some 32) (.ext (.t 28) 0) .none 30 .none .false [] .false, .mk (.some 33) (.ext (.t 28) 1) .none 31 .none .false []
  .false, .mk (.some 7) (.mv (.t 32)) .none 32 .none .false [] .false, .mk (.some 8) (.mv (.t 33)) .none 33 .none .false [] .false]) (.seq (.reg 34 52 [.mk (.some 34) (.mv (.t 2))
  .none 34 .none .false [] .false, .mk (.some 35) (.bin .eql (.t 34) (.k (.int .i64 0))) .none 35 .none .false [] .false, .mk (.some 36) (.mv (.t 35)) .none 36 .none .false []
  .false, .mk (.some 37) (.mv (.t 4)) (.some (36, .true)) 37 .none .false [] .false, .mk (.some 38) (.bin .eql (.t 37) (.k (.int .i64 0))) (.some (36, .true)) 38 .none .false []
  .false, .mk (.some 39) (.pick (.t 36) (.t 38) (.k (.bool .false))) .none 39 .none .false [] .false, .mk (.some 40) (.mv (.t 39)) .none 40 .none .false [] .false, .mk (.some 41)
  (.mv (.t 6)) (.some (40, .true)) 41 .none .false [] .false, .mk (.some 42) (.bin .eql (.t 41) (.k (.int .i64 0))) (.some (40, .true)) 42 .none .false [] .false, .mk (.some 43)
  (.pick (.t 40) (.t 42) (.k (.bool .false))) .none 43 .none .false [] .false, .mk (.some 44) (.mv (.t 43)) .none 44 .none .false [] .false, .mk (.some 45) (.mv (.t 8)) (.some (44,
  .true)) 45 .none .false [] .false, .mk (.some 46) (.bin .eql (.t 45) (.k (.int .i64 0))) (.some (44, .true)) 46 .none .false [] .false, .mk (.some 47) (.pick (.t 44) (.t 46) (.k
  (.bool .false))) .none 47 .none .false [] .false, .mk (.some 48) (.mv (.t 47)) .none 48 .none .false [] .false, .mk (.some 49) (.mv (.t 1)) (.some (48, .true)) 49 .none .false []
  .false, .mk (.some 50) (.bld [(0, 1), (1, 1)] [.string (ByteArray.mk (Array.mk [])), .int .i64 0] [(0, .k (.string (ByteArray.mk (Array.mk [119, 101])))), (1, .k (.int .i64 1))])
  (.some (48, .true)) 50 .none .false [] .false, .mk (.some 51) (.bld [(0, 1), (1, 1)] [.string (ByteArray.mk (Array.mk [])), .int .i64 0] [(0, .k (.string (ByteArray.mk (Array.mk
  [109, 101, 116])))), (1, .k (.int .i64 1))]) (.some (48, .true)) 51 .none .false [] .false, .mk (.some 52) (.bld [(0, 1), (1, 1)] [.string (ByteArray.mk (Array.mk [])), .int .i64
  0] [(0, .k (.string (ByteArray.mk (Array.mk [116, 104, 101])))), (1, .k (.int .i64 1))]) (.some (48, .true)) 52 .none .false [] .false, .mk (.some 53) (.bld [(0, 1), (1, 1)]
  [.string (ByteArray.mk (Array.mk [])), .int .i64 0] [(1, .k (.int .i64 2))]) (.some (48, .true)) 53 .none .false [] .false, .mk (.some 54) (.bld [(0, 1), (1, 1)] [.string
  (ByteArray.mk (Array.mk [])), .int .i64 0] [(0, .k (.string (ByteArray.mk (Array.mk [116, 111, 100, 97, 121])))), (1, .k (.int .i64 2))]) (.some (48, .true)) 54 .none .false []
  .false, .mk (.some 55) (.bsl 79 2 5 [.string (ByteArray.mk (Array.mk [])), .int .i64 0, .string (ByteArray.mk (Array.mk [])), .int .i64 0, .string (ByteArray.mk (Array.mk [])),
  .int .i64 0, .string (ByteArray.mk (Array.mk [])), .int .i64 0, .string (ByteArray.mk (Array.mk [])), .int .i64 0] [(0, .t 50), (1, .t 51), (2, .t 52), (3, .t 53), (4, .t 54)])
  (.some (48, .true)) 55 .none .false [] .false, .mk (.some 56) (.call 29 [.t 49, .t 55]) (.some (48, .true)) 56 .none .false [] .false, .mk (.some 57) (.pick (.t 48) (.t 56) (.k
  (.bool .false))) .none 57 .none .false [] .false, .mk (.some 58) (.mv (.t 57)) .none 58 .none .false [] .false, .mk (.some 59) (.mv (.t 3)) (.some (58, .true)) 59 .none .false []
  .false, .mk (.some 60) (.bsl 3 1 1 [.int .i64 0] [(0, .k (.int .i64 2))]) (.some (58, .true)) 60 .none .false [] .false, .mk (.some 61) (.bld [(0, 1), (1, 1)] [.int .i64 0, .slice
  .none 0 0] [(0, .k (.int .i64 3)), (1, .t 60)]) (.some (58, .true)) 61 .none .false [] .false, .mk (.some 62) (.bsl 3 1 1 [.int .i64 0] [(0, .k (.int .i64 2))]) (.some (58,
  .true)) 62 .none .false [] .false, .mk (.some 63) (.bld [(0, 1), (1, 1)] [.int .i64 0, .slice .none 0 0] [(0, .k (.int .i64 5)), (1, .t 62)]) (.some (58, .true)) 63 .none .false
  [] .false, .mk (.some 64) (.bsl 3 1 1 [.int .i64 0] [(0, .k (.int .i64 2))]) (.some (58, .true)) 64 .none .false [] .false, .mk (.some 65) (.bld [(0, 1), (1, 1)] [.int .i64 0,
  .slice .none 0 0] [(0, .k (.int .i64 8)), (1, .t 64)]) (.some (58, .true)) 65 .none .false [] .false, .mk (.some 66) (.bsl 47 2 3 [.int .i64 0, .slice .none 0 0, .int .i64 0,
  .slice .none 0 0, .int .i64 0, .slice .none 0 0] [(0, .t 61), (1, .t 63), (2, .t 65)]) (.some (58, .true)) 66 .none .false [] .false, .mk (.some 67) (.call 20 [.t 59, .t 66])
  (.some (58, .true)) 67 .none .false [] .false, .mk (.some 68) (.pick (.t 58) (.t 67) (.k (.bool .false))) .none 68 .none .false [] .false, .mk (.some 69) (.mv (.t 68)) .none 69
  .none .false [] .false, .mk (.some 70) (.mv (.t 5)) (.some (69, .true)) 70 .none .false [] .false, .mk (.some 71) (.len (.t 70)) (.some (69, .true)) 71 .none .false [] .false, .mk
  (.some 72) (.bin .eql (.t 71) (.k (.int .i64 1))) (.some (69, .true)) 72 .none .false [] .false, .mk (.some 73) (.pick (.t 69) (.t 72) (.k (.bool .false))) .none 73 .none .false
  [] .false, .mk (.some 74) (.mv (.t 73)) .none 74 .none .false [] .false, .mk (.some 75) (.mv (.t 5)) (.some (74, .true)) 75 .none .false [] .false, .mk (.some 76) (.iaddr 3 (.t
  75) (.k (.int .i64 0))) (.some (74, .true)) 76 .none .false [] .false, .mk (.some 77) (.load 3 .true (.t 76)) (.some (74, .true)) 77 .none .false [] .false, .mk (.some 78) (.bld
  [(0, 1), (1, 1), (2, 1)] [.int .i64 0, .int .i64 0, .int .i64 0] [(0, .k (.int .i64 3)), (1, .k (.int .i64 6)), (2, .k (.int .i64 1990))]) (.some (74, .true)) 78 .none .false []
  .false, .mk (.some 79) (.pur (.bin .eql 55) [.t 77, .t 78]) (.some (74, .true)) 79 .none .false [] .false, .mk (.some 80) (.pick (.t 74) (.t 79) (.k (.bool .false))) .none 80
  .none .false [] .false, .mk (.some 81) (.mv (.t 80)) .none 81 .none .false [] .false, .mk (.some 82) (.mv (.t 7)) (.some (81, .true)) 82 .none .false [] .false, .mk (.some 83)
  (.bin .eql (.t 82) (.k (.int .i64 2))) (.some (81, .true)) 83 .none .false [] .false, .mk (.some 84) (.pick (.t 81) (.t 83) (.k (.bool .false))) .none 84 .none .false [] .false,
  .mk (.some 0) (.mv (.t 84)) .none 85 .none .false [] .false]) .ret)))))
def rs14 : List IRes := [.tmp 0]
set_option maxRecDepth 100000 in
theorem comp14 : Comp Try.prog 14 ir14 rs14 85 := ⟨⟨_, _, 86, Try.func14, rfl, by kernel_rfl, by kernel_rfl, rfl⟩⟩
theorem body14 : HasBody Try.prog 14 := hasBody_of (by kernel_rfl)

def ir42 : IC :=
  .seq (.reg 0 1 [.mk (.some 0) (.alloc 38 [.slice .none 0 0, .slice .none 0 0, .int .i64 0]) .none 0 .none .false [] .false]) (.seq (.reg 1 17 [.mk (.some 1) (.bld [(0, 1), (1, 1)]
  [.string (ByteArray.mk (Array.mk [])), .slice .none 0 0] [(0, .k (.string (ByteArray.mk (Array.mk [119, 101]))))]) .none 1 .none .false [] .false, .mk (.some 2) (.bld [(0, 1), (1,
  1)] [.string (ByteArray.mk (Array.mk [])), .slice .none 0 0] [(0, .k (.string (ByteArray.mk (Array.mk [109, 101, 116]))))]) .none 2 .none .false [] .false, .mk (.some 3) (.bld
  [(0, 1), (1, 1)] [.string (ByteArray.mk (Array.mk [])), .slice .none 0 0] [(0, .k (.string (ByteArray.mk (Array.mk [116, 104, 101]))))]) .none 3 .none .false [] .false, .mk (.some
  4) (.bsl 3 1 2 [.int .i64 0, .int .i64 0] [(0, .k (.int .i64 3)), (1, .k (.int .i64 5))]) .none 4 .none .false [] .false, .mk (.some 5) (.bld [(0, 1), (1, 1)] [.string
  (ByteArray.mk (Array.mk [])), .slice .none 0 0] [(0, .k (.string (ByteArray.mk (Array.mk [101, 110, 118, 111, 121])))), (1, .t 4)]) .none 5 .none .false [] .false, .mk (.some 6)
  (.bld [(0, 1), (1, 1)] [.string (ByteArray.mk (Array.mk [])), .slice .none 0 0] [(0, .k (.string (ByteArray.mk (Array.mk [105, 110]))))]) .none 6 .none .false [] .false, .mk
  (.some 7) (.bsl 3 1 1 [.int .i64 0] [(0, .k (.int .i64 5))]) .none 7 .none .false [] .false, .mk (.some 8) (.bld [(0, 1), (1, 1)] [.string (ByteArray.mk (Array.mk [])), .slice
  .none 0 0] [(0, .k (.string (ByteArray.mk (Array.mk [66, 101, 114, 110])))), (1, .t 7)]) .none 8 .none .false [] .false, .mk (.some 9) (.bsl 3 1 1 [.int .i64 0] [(0, .k (.int .i64
  8))]) .none 9 .none .false [] .false, .mk (.some 10) (.bld [(0, 1), (1, 1)] [.string (ByteArray.mk (Array.mk [])), .slice .none 0 0] [(0, .k (.string (ByteArray.mk (Array.mk [116,
  111, 100, 97, 121])))), (1, .t 9)]) .none 10 .none .false [] .false, .mk (.some 11) (.bsl 104 2 7 [.string (ByteArray.mk (Array.mk [])), .slice .none 0 0, .string (ByteArray.mk
  (Array.mk [])), .slice .none 0 0, .string (ByteArray.mk (Array.mk [])), .slice .none 0 0, .string (ByteArray.mk (Array.mk [])), .slice .none 0 0, .string (ByteArray.mk (Array.mk
  [])), .slice .none 0 0, .string (ByteArray.mk (Array.mk [])), .slice .none 0 0, .string (ByteArray.mk (Array.mk [])), .slice .none 0 0] [(0, .t 1), (1, .t 2), (2, .t 3), (3, .t
  5), (4, .t 6), (5, .t 8), (6, .t 10)]) .none 11 .none .false [] .false, .mk (.some 12) (.bld [(0, 1), (1, 1), (2, 1), (3, 1)] [.int .i64 0, .int .i64 0, .int .i64 0, .int .i64 0]
  [(0, .k (.int .i64 3)), (1, .k (.int .i64 4)), (2, .k (.int .i64 1)), (3, .k (.int .i64 1990))]) .none 12 .none .false [] .false, .mk (.some 13) (.bld [(0, 1), (1, 1), (2, 1), (3,
  1)] [.int .i64 0, .int .i64 0, .int .i64 0, .int .i64 0] [(0, .k (.int .i64 4)), (1, .k (.int .i64 6)), (2, .k (.int .i64 2)), (3, .k (.int .i64 1980))]) .none 13 .none .false []
  .false, .mk (.some 14) (.bld [(0, 1), (1, 1), (2, 1), (3, 1)] [.int .i64 0, .int .i64 0, .int .i64 0, .int .i64 0] [(0, .k (.int .i64 5)), (1, .k (.int .i64 6)), (2, .k (.int .i64
  1)), (3, .k (.int .i64 1975))]) .none 14 .none .false [] .false, .mk (.some 15) (.bsl 65 4 3 [.int .i64 0, .int .i64 0, .int .i64 0, .int .i64 0, .int .i64 0, .int .i64 0, .int
  .i64 0, .int .i64 0, .int .i64 0, .int .i64 0, .int .i64 0, .int .i64 0] [(0, .t 12), (1, .t 13), (2, .t 14)]) .none 15 .none .false [] .false, .mk (.some 16) (.bld [(0, 1), (1,
  1), (2, 1)] [.slice .none 0 0, .slice .none 0 0, .int .i64 0] [(2, .k (.int .i64 3)), (0, .t 11), (1, .t 15)]) .none 16 .none .false [] .false, .mk .none (.store 3 (.t 0) (.t 16))
  .none 17 .none .false [] .false]) .ret)
def rs42 : List IRes := [.cell 0 3 .true]
set_option maxRecDepth 100000 in
theorem comp42 : Comp Try.prog 42 ir42 rs42 17 := ⟨⟨_, _, 18, Try.func42, rfl, by kernel_rfl, by kernel_rfl, rfl⟩⟩
theorem body42 : HasBody Try.prog 42 := hasBody_of (by kernel_rfl)

def ir43 : IC :=
  .seq (.reg 0 1 [.mk (.some 4) (.alloc 40 [.int .i64 0, .slice .none 0 0]) .none 0 .none .false [] .false]) (.seq (.reg 1 4 [.mk (.some 5) (.mv (.t 0)) .none 1 .none .false []
  .false, .mk (.some 6) (.mv (.t 1)) .none 2 .none .false [] .false, .mk (.some 7) (.bld [(0, 1), (1, 1)] [.int .i64 0, .slice .none 0 0] [(0, .t 5), (1, .t 6)]) .none 3 .none
  .false [] .false, .mk .none (.store 2 (.t 4) (.t 7)) .none 4 .none .false [] .false]) .ret)
def rs43 : List IRes := [.cell 4 2 .true]
set_option maxRecDepth 100000 in
theorem comp43 : Comp Try.prog 43 ir43 rs43 8 := ⟨⟨_, _, 5, Try.func43, rfl, by kernel_rfl, by kernel_rfl, rfl⟩⟩
theorem body43 : HasBody Try.prog 43 := hasBody_of (by kernel_rfl)

end Go.Proofs.Ytpcpjmplgladmaa

namespace Go.Proofs.Ytpcpjmplgladmaa
open Go.Pal
def ir57 : IC :=
  .seq (.reg 0 2 [.mk (.some 1) (.box 104 (.t 0)) .none 0 .none .false [] .false, .mk (.some 2) (.mv (.k (.bool .false))) .none 1 .none .false [] .false]) (.seq (.reg 2 5 [.mk (.some
  3) (.faddr 1 (.t 1)) .none 2 .none .false [] .false, .mk (.some 4) (.load 1 .false (.t 3)) .none 3 .none .false [] .false, .mk (.some 5) (.len (.t 4)) .none 4 .none .false []
  .false, .mk (.some 6) (.bin .leq (.t 5) (.k (.int .i64 5))) .none 5 .none .false [] .false, .mk (.some 2) (.mv (.t 6)) .none 6 .none .false [] .false]) .ret)
def rs57 : List IRes := [.tmp 2]
set_option maxRecDepth 100000 in
theorem comp57 : Comp Try.prog 57 ir57 rs57 7 := ⟨⟨_, _, 7, Try.func57, rfl, by kernel_rfl, by kernel_rfl, rfl⟩⟩
theorem body57 : HasBody Try.prog 57 := hasBody_of (by kernel_rfl)

def ir79 : IC :=
  .seq (.reg 0 1 [.mk (.some 2) (.mv (.k (.bool .false))) .none 0 .none .false [] .false]) (.seq (.reg 1 7 [.mk (.some 3) (.mv (.t 0)) .none 1 .none .false [] .false, .mk (.some 4)
  (.bin .leq (.k (.int .u8 33)) (.t 3)) .none 2 .none .false [] .false, .mk (.some 5) (.mv (.t 4)) .none 3 .none .false [] .false, .mk (.some 6) (.mv (.t 0)) (.some (5, .true)) 4
  .none .false [] .false, .mk (.some 7) (.bin .leq (.t 6) (.k (.int .u8 126))) (.some (5, .true)) 5 .none .false [] .false, .mk (.some 8) (.pick (.t 5) (.t 7) (.k (.bool .false)))
  .none 6 .none .false [] .false, .mk (.some 2) (.mv (.t 8)) .none 7 .none .false [] .false]) .ret)
def rs79 : List IRes := [.tmp 2]
set_option maxRecDepth 100000 in
theorem comp79 : Comp Try.prog 79 ir79 rs79 9 := ⟨⟨_, _, 8, Try.func79, rfl, by kernel_rfl, by kernel_rfl, rfl⟩⟩
theorem body79 : HasBody Try.prog 79 := hasBody_of (by kernel_rfl)

def ir78 : IC :=
  .seq (.reg 0 2 [.mk (.some 3) (.box 130 (.t 1)) .none 0 .none .false [] .false, .mk (.some 4) (.mv (.k (.bool .false))) .none 1 .none .false [] .false]) (.seq (.reg 2 5 [.mk (.some
  5) (.mv (.t 0)) .none 2 .none .false [] .false, .mk (.some 6) (.mkf 87 [] [.t 3]) .none 3 .none .false [] .false, .mk (.some 7) (.call 86 [.t 5, .t 6]) .none 4 .none .false []
  .false, .mk (.some 8) (.un .not (.t 7)) .none 5 .none .false [] .false, .mk (.some 4) (.mv (.t 8)) .none 6 .none .false [] .false]) .ret)
def rs78 : List IRes := [.tmp 4]
set_option maxRecDepth 100000 in
theorem comp78 : Comp Try.prog 78 ir78 rs78 9 := ⟨⟨_, _, 7, Try.func78, rfl, by kernel_rfl, by kernel_rfl, rfl⟩⟩
theorem body78 : HasBody Try.prog 78 := hasBody_of (by kernel_rfl)

def ir77 : IC :=
  .seq (.reg 1 2 [.mk (.some 2) (.box 104 (.t 0)) .none 1 .none .false [] .false, .mk (.some 3) (.mv (.k (.bool .false))) .none 2 .none .false [] .false]) (.seq (.reg 3 5 [.mk (.some
  4) (.load 1 .false (.t 1)) .none 3 .none .false [] .false, .mk (.some 5) (.load 2 .true (.t 2)) .none 4 .none .false [] .false, .mk (.some 6) (.callv (.t 4) [.t 5]) .none 5 .none
  .false [] .false, .mk (.some 7) (.un .not (.t 6)) .none 6 .none .false [] .false, .mk (.some 3) (.mv (.t 7)) .none 7 .none .false [] .false]) .ret)
def rs77 : List IRes := [.tmp 3]
set_option maxRecDepth 100000 in
theorem comp77 : CompAt Try.prog 77 1 ir77 rs77 8 := ⟨⟨_, _, 8, Try.func77, rfl, by kernel_rfl, by kernel_rfl, rfl⟩⟩
theorem body77 : HasBody Try.prog 77 := hasBody_of (by kernel_rfl)

def ir76 : IC :=
  .seq (.reg 1 1 [.mk (.some 4) (.mv (.k (.bool .false))) .none 1 .none .false [] .false]) (.seq (.reg 2 5 [.mk (.some 5) (.mv (.t 0)) .none 2 .none .false [] .false, .mk (.some 6)
  (.mv (.t 1)) .none 3 .none .false [] .false, .mk (.some 7) (.call 85 [.t 5, .t 6]) .none 4 .none .false [] .false, .mk (.some 8) (.bin .geq (.t 7) (.k (.int .i64 0))) .none 5
  .none .false [] .false, .mk (.some 4) (.mv (.t 8)) .none 6 .none .false [] .false]) .ret)
def rs76 : List IRes := [.tmp 4]
set_option maxRecDepth 100000 in
theorem comp76 : CompAt Try.prog 76 1 ir76 rs76 9 := ⟨⟨_, _, 7, Try.func76, rfl, by kernel_rfl, by kernel_rfl, rfl⟩⟩
theorem body76 : HasBody Try.prog 76 := hasBody_of (by kernel_rfl)

def ir85 : IC :=
  .seq (.reg 1 1 [.mk (.some 4) (.mv (.k (.int .i64 0))) .none 1 .none .false [] .false]) (.seq (.seq (.reg 2 3 [.mk (.some 6) (.mv (.t 0)) .none 2 .none .false [] .false, .mk (.some
  7) (.len (.t 6)) .none 3 .none .false [] .false, .mk (.some 8) (.mv (.k (.int .i64 0))) .none 4 .none .false [] .false]) (.block 0 (.loop (.seq (.reg 5 1 [.mk (.some 9) (.bin .lss
  (.t 8) (.t 7)) .none 5 .none .false [] .false]) (.seq (.cond (.t 9) .skip (.exit 0)) (.seq (.block 1 (.seq (.reg 6 2 [.mk (.some 10) (.mv (.t 8)) .none 6 .none .false [] .false,
  .mk (.some 5) (.mv (.t 10)) .none 7 .none .false [] .false]) (.seq (.reg 8 6 [.mk (.some 11) (.mv (.t 1)) .none 8 .none .false [] .false, .mk (.some 12) (.mv (.t 0)) .none 9 .none
  .false [] .false, .mk (.some 13) (.mv (.t 5)) .none 10 .none .false [] .false, .mk (.some 14) (.iaddr 2 (.t 12) (.t 13)) .none 11 .none .false [] .false, .mk (.some 15) (.load 2
  .true (.t 14)) .none 12 .none .false [] .false, .mk (.some 16) (.callv (.t 11) [.t 15]) .none 13 .none .false [] .false]) (.cond (.t 16) (.seq (.reg 14 2 [.mk (.some 17) (.mv (.t
  5)) .none 14 .none .false [] .false, .mk (.some 4) (.mv (.t 17)) .none 15 .none .false [] .false]) .ret) .skip)))) (.reg 16 2 [.mk (.some 18) (.bin .add (.t 8) (.k (.int .i64 1)))
  .none 16 .none .false [] .false, .mk (.some 8) (.mv (.t 18)) .none 17 .none .false [] .false]))))))) (.seq (.reg 18 1 [.mk (.some 4) (.mv (.k (.int .i64 (-1)))) .none 18 .none
  .false [] .false]) .ret))
def rs85 : List IRes := [.tmp 4]
set_option maxRecDepth 100000 in
theorem comp85 : CompAt Try.prog 85 1 ir85 rs85 19 := ⟨⟨_, _, 19, Try.func85, rfl, by kernel_rfl, by kernel_rfl, rfl⟩⟩
theorem body85 : HasBody Try.prog 85 := hasBody_of (by kernel_rfl)

def ir81 : IC :=
  .seq (.reg 2 2 [.mk (.some 2) (.box 65 (.t 0)) .none 2 .none .false [] .false, .mk (.some 3) (.mv (.k (.bool .false))) .none 3 .none .false [] .false]) (.seq (.reg 4 5 [.mk (.some
  4) (.load 1 .false (.t 1)) .none 4 .none .false [] .false, .mk (.some 5) (.load 4 .true (.t 2)) .none 5 .none .false [] .false, .mk (.some 6) (.callv (.t 4) [.t 5]) .none 6 .none
  .false [] .false, .mk (.some 7) (.un .not (.t 6)) .none 7 .none .false [] .false, .mk (.some 3) (.mv (.t 7)) .none 8 .none .false [] .false]) .ret)
def rs81 : List IRes := [.tmp 3]
set_option maxRecDepth 100000 in
theorem comp81 : CompAt Try.prog 81 2 ir81 rs81 8 := ⟨⟨_, _, 9, Try.func81, rfl, by kernel_rfl, by kernel_rfl, rfl⟩⟩
theorem body81 : HasBody Try.prog 81 := hasBody_of (by kernel_rfl)

def ir80 : IC :=
  .seq (.reg 2 1 [.mk (.some 4) (.mv (.k (.bool .false))) .none 2 .none .false [] .false]) (.seq (.reg 3 5 [.mk (.some 5) (.mv (.t 0)) .none 3 .none .false [] .false, .mk (.some 6)
  (.mv (.t 1)) .none 4 .none .false [] .false, .mk (.some 7) (.call 88 [.t 5, .t 6]) .none 5 .none .false [] .false, .mk (.some 8) (.bin .geq (.t 7) (.k (.int .i64 0))) .none 6
  .none .false [] .false, .mk (.some 4) (.mv (.t 8)) .none 7 .none .false [] .false]) .ret)
def rs80 : List IRes := [.tmp 4]
set_option maxRecDepth 100000 in
theorem comp80 : CompAt Try.prog 80 2 ir80 rs80 9 := ⟨⟨_, _, 8, Try.func80, rfl, by kernel_rfl, by kernel_rfl, rfl⟩⟩
theorem body80 : HasBody Try.prog 80 := hasBody_of (by kernel_rfl)

def ir88 : IC :=
  .seq (.reg 2 1 [.mk (.some 4) (.mv (.k (.int .i64 0))) .none 2 .none .false [] .false]) (.seq (.seq (.reg 3 3 [.mk (.some 6) (.mv (.t 0)) .none 3 .none .false [] .false, .mk (.some
  7) (.len (.t 6)) .none 4 .none .false [] .false, .mk (.some 8) (.mv (.k (.int .i64 0))) .none 5 .none .false [] .false]) (.block 0 (.loop (.seq (.reg 6 1 [.mk (.some 9) (.bin .lss
  (.t 8) (.t 7)) .none 6 .none .false [] .false]) (.seq (.cond (.t 9) .skip (.exit 0)) (.seq (.block 1 (.seq (.reg 7 2 [.mk (.some 10) (.mv (.t 8)) .none 7 .none .false [] .false,
  .mk (.some 5) (.mv (.t 10)) .none 8 .none .false [] .false]) (.seq (.reg 9 6 [.mk (.some 11) (.mv (.t 1)) .none 9 .none .false [] .false, .mk (.some 12) (.mv (.t 0)) .none 10
  .none .false [] .false, .mk (.some 13) (.mv (.t 5)) .none 11 .none .false [] .false, .mk (.some 14) (.iaddr 4 (.t 12) (.t 13)) .none 12 .none .false [] .false, .mk (.some 15)
  (.load 4 .true (.t 14)) .none 13 .none .false [] .false, .mk (.some 16) (.callv (.t 11) [.t 15]) .none 14 .none .false [] .false]) (.cond (.t 16) (.seq (.reg 15 2 [.mk (.some 17)
  (.mv (.t 5)) .none 15 .none .false [] .false, .mk (.some 4) (.mv (.t 17)) .none 16 .none .false [] .false]) .ret) .skip)))) (.reg 17 2 [.mk (.some 18) (.bin .add (.t 8) (.k (.int
  .i64 1))) .none 17 .none .false [] .false, .mk (.some 8) (.mv (.t 18)) .none 18 .none .false [] .false]))))))) (.seq (.reg 19 1 [.mk (.some 4) (.mv (.k (.int .i64 (-1)))) .none 19
  .none .false [] .false]) .ret))
def rs88 : List IRes := [.tmp 4]
set_option maxRecDepth 100000 in
theorem comp88 : CompAt Try.prog 88 2 ir88 rs88 19 := ⟨⟨_, _, 20, Try.func88, rfl, by kernel_rfl, by kernel_rfl, rfl⟩⟩
theorem body88 : HasBody Try.prog 88 := hasBody_of (by kernel_rfl)

def ir87 : IC :=
  .seq (.reg 1 1 [.mk (.some 3) (.mv (.k (.bool .false))) .none 1 .none .false [] .false]) (.seq (.reg 2 5 [.mk (.some 4) (.load 1 .false (.t 1)) .none 2 .none .false [] .false, .mk
  (.some 5) (.mv (.t 0)) .none 3 .none .false [] .false, .mk (.some 6) (.callv (.t 4) [.t 5]) .none 4 .none .false [] .false, .mk (.some 7) (.un .not (.t 6)) .none 5 .none .false []
  .false, .mk (.some 3) (.mv (.t 7)) .none 6 .none .false [] .false]) .ret)
def rs87 : List IRes := [.tmp 3]
set_option maxRecDepth 100000 in
theorem comp87 : CompAt Try.prog 87 1 ir87 rs87 8 := ⟨⟨_, _, 7, Try.func87, rfl, by kernel_rfl, by kernel_rfl, rfl⟩⟩
theorem body87 : HasBody Try.prog 87 := hasBody_of (by kernel_rfl)

def ir86 : IC :=
  .seq (.reg 1 1 [.mk (.some 4) (.mv (.k (.bool .false))) .none 1 .none .false [] .false]) (.seq (.reg 2 5 [.mk (.some 5) (.mv (.t 0)) .none 2 .none .false [] .false, .mk (.some 6)
  (.mv (.t 1)) .none 3 .none .false [] .false, .mk (.some 7) (.call 100 [.t 5, .t 6]) .none 4 .none .false [] .false, .mk (.some 8) (.bin .geq (.t 7) (.k (.int .i64 0))) .none 5
  .none .false [] .false, .mk (.some 4) (.mv (.t 8)) .none 6 .none .false [] .false]) .ret)
def rs86 : List IRes := [.tmp 4]
set_option maxRecDepth 100000 in
theorem comp86 : CompAt Try.prog 86 1 ir86 rs86 9 := ⟨⟨_, _, 7, Try.func86, rfl, by kernel_rfl, by kernel_rfl, rfl⟩⟩
theorem body86 : HasBody Try.prog 86 := hasBody_of (by kernel_rfl)

def ir100 : IC :=
  .seq (.reg 1 1 [.mk (.some 4) (.mv (.k (.int .i64 0))) .none 1 .none .false [] .false]) (.seq (.seq (.reg 2 3 [.mk (.some 6) (.mv (.t 0)) .none 2 .none .false [] .false, .mk (.some
  7) (.len (.t 6)) .none 3 .none .false [] .false, .mk (.some 8) (.mv (.k (.int .i64 0))) .none 4 .none .false [] .false]) (.block 0 (.loop (.seq (.reg 5 1 [.mk (.some 9) (.bin .lss
  (.t 8) (.t 7)) .none 5 .none .false [] .false]) (.seq (.cond (.t 9) .skip (.exit 0)) (.seq (.block 1 (.seq (.reg 6 2 [.mk (.some 10) (.mv (.t 8)) .none 6 .none .false [] .false,
  .mk (.some 5) (.mv (.t 10)) .none 7 .none .false [] .false]) (.seq (.reg 8 6 [.mk (.some 11) (.mv (.t 1)) .none 8 .none .false [] .false, .mk (.some 12) (.mv (.t 0)) .none 9 .none
  .false [] .false, .mk (.some 13) (.mv (.t 5)) .none 10 .none .false [] .false, .mk (.some 14) (.iaddr 1 (.t 12) (.t 13)) .none 11 .none .false [] .false, .mk (.some 15) (.load 1
  .false (.t 14)) .none 12 .none .false [] .false, .mk (.some 16) (.callv (.t 11) [.t 15]) .none 13 .none .false [] .false]) (.cond (.t 16) (.seq (.reg 14 2 [.mk (.some 17) (.mv (.t
  5)) .none 14 .none .false [] .false, .mk (.some 4) (.mv (.t 17)) .none 15 .none .false [] .false]) .ret) .skip)))) (.reg 16 2 [.mk (.some 18) (.bin .add (.t 8) (.k (.int .i64 1)))
  .none 16 .none .false [] .false, .mk (.some 8) (.mv (.t 18)) .none 17 .none .false [] .false]))))))) (.seq (.reg 18 1 [.mk (.some 4) (.mv (.k (.int .i64 (-1)))) .none 18 .none
  .false [] .false]) .ret))
def rs100 : List IRes := [.tmp 4]
set_option maxRecDepth 100000 in
theorem comp100 : CompAt Try.prog 100 1 ir100 rs100 19 := ⟨⟨_, _, 19, Try.func100, rfl, by kernel_rfl, by kernel_rfl, rfl⟩⟩
theorem body100 : HasBody Try.prog 100 := hasBody_of (by kernel_rfl)

def ir54 : IC :=
  .seq (.reg 1 2 [.mk (.some 2) (.box 65 (.t 0)) .none 1 .none .false [] .false, .mk (.some 3) (.mv (.k (.bool .false))) .none 2 .none .false [] .false]) (.seq (.reg 3 29 [.mk (.some
  4) (.faddr 0 (.t 2)) .none 3 .none .false [] .false, .mk (.some 5) (.load 1 .false (.t 4)) .none 4 .none .false [] .false, .mk (.some 6) (.bin .leq (.k (.int .i64 0)) (.t 5))
  .none 5 .none .false [] .false, .mk (.some 7) (.mv (.t 6)) .none 6 .none .false [] .false, .mk (.some 8) (.faddr 0 (.t 2)) (.some (7, .true)) 7 .none .false [] .false, .mk (.some
  9) (.load 1 .false (.t 8)) (.some (7, .true)) 8 .none .false [] .false, .mk (.some 10) (.faddr 1 (.t 2)) (.some (7, .true)) 9 .none .false [] .false, .mk (.some 11) (.load 1
  .false (.t 10)) (.some (7, .true)) 10 .none .false [] .false, .mk (.some 12) (.bin .lss (.t 9) (.t 11)) (.some (7, .true)) 11 .none .false [] .false, .mk (.some 13) (.pick (.t 7)
  (.t 12) (.k (.bool .false))) .none 12 .none .false [] .false, .mk (.some 14) (.mv (.t 13)) .none 13 .none .false [] .false, .mk (.some 15) (.faddr 1 (.t 2)) (.some (14, .true)) 14
  .none .false [] .false, .mk (.some 16) (.load 1 .false (.t 15)) (.some (14, .true)) 15 .none .false [] .false, .mk (.some 17) (.faddr 0 (.t 1)) (.some (14, .true)) 16 .none .false
  [] .false, .mk (.some 18) (.load 1 .false (.t 17)) (.some (14, .true)) 17 .none .false [] .false, .mk (.some 19) (.len (.t 18)) (.some (14, .true)) 18 .none .false [] .false, .mk
  (.some 20) (.bin .leq (.t 16) (.t 19)) (.some (14, .true)) 19 .none .false [] .false, .mk (.some 21) (.pick (.t 14) (.t 20) (.k (.bool .false))) .none 20 .none .false [] .false,
  .mk (.some 22) (.mv (.t 21)) .none 21 .none .false [] .false, .mk (.some 23) (.faddr 2 (.t 2)) (.some (22, .true)) 22 .none .false [] .false, .mk (.some 24) (.load 1 .false (.t
  23)) (.some (22, .true)) 23 .none .false [] .false, .mk (.some 25) (.call 51 [.t 24, .k (.int .i64 0), .k (.int .i64 7)]) (.some (22, .true)) 24 .none .false [] .false, .mk (.some
  26) (.pick (.t 22) (.t 25) (.k (.bool .false))) .none 25 .none .false [] .false, .mk (.some 27) (.mv (.t 26)) .none 26 .none .false [] .false, .mk (.some 28) (.faddr 3 (.t 2))
  (.some (27, .true)) 27 .none .false [] .false, .mk (.some 29) (.load 1 .false (.t 28)) (.some (27, .true)) 28 .none .false [] .false, .mk (.some 30) (.call 55 [.t 29]) (.some (27,
  .true)) 29 .none .false [] .false, .mk (.some 31) (.pick (.t 27) (.t 30) (.k (.bool .false))) .none 30 .none .false [] .false, .mk (.some 3) (.mv (.t 31)) .none 31 .none .false []
  .false]) .ret)
def rs54 : List IRes := [.tmp 3]
set_option maxRecDepth 100000 in
theorem comp54 : CompAt Try.prog 54 1 ir54 rs54 32 := ⟨⟨_, _, 32, Try.func54, rfl, by kernel_rfl, by kernel_rfl, rfl⟩⟩
theorem body54 : HasBody Try.prog 54 := hasBody_of (by kernel_rfl)

def ir70 : IC :=
  .seq (.reg 0 1 [.mk (.some 3) (.mv (.k (.int .i64 0))) .none 0 .none .false [] .false]) (.seq (.reg 1 5 [.mk (.some 8) (.faddr 0 (.t 1)) .none 1 .none .false [] .false, .mk (.some
  9) (.faddr 0 (.t 8)) .none 2 .none .false [] .false, .mk (.some 10) (.load 1 .false (.t 9)) .none 3 .none .false [] .false, .mk (.some 11) (.len (.t 10)) .none 4 .none .false []
  .false, .mk (.some 12) (.mv (.k (.int .i64 0))) .none 5 .none .false [] .false]) (.block 0 (.loop (.seq (.reg 6 1 [.mk (.some 13) (.bin .lss (.t 12) (.t 11)) .none 6 .none .false
  [] .false]) (.seq (.cond (.t 13) .skip (.exit 0)) (.seq (.block 1 (.seq (.reg 7 6 [.mk (.some 14) (.mv (.t 12)) .none 7 .none .false [] .false, .mk (.some 15) (.iaddr 2 (.t 10)
  (.t 12)) .none 8 .none .false [] .false, .mk (.some 16) (.load 2 .true (.t 15)) .none 9 .none .false [] .false, .mk (.some 5) (.alloc 104 [.string (ByteArray.mk (Array.mk [])),
  .slice .none 0 0]) .none 10 .none .false [] .false, .mk (.some 4) (.mv (.t 14)) .none 11 .none .false [] .false, .mk .none (.store 2 (.t 5) (.t 16)) .none 12 .none .false []
  .false]) (.seq (.draw 13 13 [] [] [.mk (.some 17) (.faddr 0 (.t 5)) .none 13 (.some []) .true [] .false, .mk (.some 18) (.load 1 .false (.t 17)) .none 14 (.some []) .true []
  .false, .mk (.some 19) (.mv (.t 3)) .none 15 (.some []) .true [] .false, .mk (.some 20) (.faddr 0 (.t 1)) .none 16 (.some []) .true [] .false, .mk (.some 21) (.faddr 2 (.t 20))
  .none 17 (.some []) .true [] .false, .mk (.some 22) (.load 1 .false (.t 21)) .none 18 (.some []) .true [] .false, .mk (.some 23) (.bin .quo (.t 19) (.t 22)) .none 19 (.some [])
  .true [] .false, .mk (.some 24) (.bin .add (.t 23) (.k (.int .i64 1))) .none 20 (.some []) .true [] .false, .mk (.some 25) (.bld [(0, 1), (1, 1)] [.string (ByteArray.mk (Array.mk
  [])), .int .i64 0] [(0, .t 18), (1, .t 24)]) .none 21 (.some []) .true [] .false, .mk (.some 26) (.mv (.t 4)) .none 22 (.some []) .true [] .false, .mk (.some 6) (.alloc 79
  [.string (ByteArray.mk (Array.mk [])), .int .i64 0]) .none 23 (.some []) .true [] .false, .mk .none (.store 2 (.t 6) (.t 25)) .none 24 (.some [23]) .true [] .false, .mk (.some 7)
  (.mv (.t 26)) .none 25 (.some [23]) .true [] .false]) (.seq (.seq (.reg 26 4 [.mk (.some 27) (.mv (.t 4)) .none 26 .none .false [] .false, .mk (.some 28) (.faddr 5 (.t 1)) .none
  27 .none .false [] .false, .mk (.some 29) (.aaddr 1 60 (.t 28) (.t 27)) .none 28 .none .false [] .false, .mk (.some 30) (.load 1 .false (.t 29)) .none 29 .none .false [] .false])
  (.cond (.t 30) (.seq (.seq (.reg 30 9 [.mk (.some 31) (.mv (.t 4)) .none 30 .none .false [] .false, .mk (.some 32) (.bin .gtr (.t 31) (.k (.int .i64 0))) .none 31 .none .false []
  .false, .mk (.some 33) (.mv (.t 32)) .none 32 .none .false [] .false, .mk (.some 34) (.mv (.t 4)) (.some (33, .true)) 33 .none .false [] .false, .mk (.some 35) (.bin .sub (.t 34)
  (.k (.int .i64 1))) (.some (33, .true)) 34 .none .false [] .false, .mk (.some 36) (.faddr 5 (.t 1)) (.some (33, .true)) 35 .none .false [] .false, .mk (.some 37) (.aaddr 1 60 (.t
  36) (.t 35)) (.some (33, .true)) 36 .none .false [] .false, .mk (.some 38) (.load 1 .false (.t 37)) (.some (33, .true)) 37 .none .false [] .false, .mk (.some 39) (.pick (.t 33)
  (.t 38) (.k (.bool .false))) .none 38 .none .false [] .false]) (.cond (.t 39) (.exit 1) .skip)) (.reg 39 3 [.mk (.some 40) (.faddr 0 (.t 6)) .none 39 .none .false [] .false, .mk
  .none (.store 1 (.t 40) (.k (.string (ByteArray.mk (Array.mk []))))) .none 40 .none .false [] .false, .mk (.some 7) (.mv (.k (.int .i64 (-1)))) .none 41 .none .false [] .false]))
  .skip)) (.seq (.seq (.reg 42 5 [.mk (.some 41) (.mv (.t 0)) .none 42 .none .false [] .false, .mk (.some 42) (.mv (.t 7)) .none 43 .none .false [] .false, .mk (.some 43) (.load 2
  .true (.t 6)) .none 44 .none .false [] .false, .mk (.some 44) (.callv (.t 41) [.t 42, .t 43]) .none 45 .none .false [] .false, .mk (.some 45) (.un .not (.t 44)) .none 46 .none
  .false [] .false]) (.cond (.t 45) .ret .skip)) (.reg 47 3 [.mk (.some 46) (.mv (.t 3)) .none 47 .none .false [] .false, .mk (.some 47) (.bin .add (.t 46) (.k (.int .i64 1))) .none
  48 .none .false [] .false, .mk (.some 3) (.mv (.t 47)) .none 49 .none .false [] .false])))))) (.reg 50 2 [.mk (.some 48) (.bin .add (.t 12) (.k (.int .i64 1))) .none 50 .none
  .false [] .false, .mk (.some 12) (.mv (.t 48)) .none 51 .none .false [] .false])))))))
def rs70 : List IRes := []
set_option maxRecDepth 100000 in
theorem comp70 : Comp Try.prog 70 ir70 rs70 49 := ⟨⟨_, _, 52, Try.func70, rfl, by kernel_rfl, by kernel_rfl, rfl⟩⟩
theorem body70 : HasBody Try.prog 70 := hasBody_of (by kernel_rfl)

end Go.Proofs.Ytpcpjmplgladmaa
