/- The intermediate forms of functions of the program (printed by a program of mine), each checked against the code. The intermediate forms of functions of the program (printed by a program of mine), each checked against the code. The intermediate forms of functions of the program (printed by a program of mine), each checked against the code. -/
import Derived.Test.YtpcpjmplgladmaaMC
import Derived.Test.YtpcpjmplgladmaaProg
import Derived.KernelRfl
set_option linter.unusedSimpArgs false
set_option linter.unusedVariables false
namespace Go.Proofs.Ytpcpjmplgladmaa
open Go.Pal
def ir11 : IC :=
  .seq (.reg 0 3 [.mk (.some 2) (.box 25 (.t 0)) .none 0 .none .false [] .false, .mk (.some 3) (.box 28 (.t 1)) .none 1 .none .false [] .false, .mk (.some 4) (.mv (.k (.bool .false)))
  .none 2 .none .false [] .false]) (.seq (.seq (.reg 3 15 [.mk (.some 10) (.load 3 .true (.t 2)) .none 3 .none .false [] .false, .mk (.some 11) (.load 2 .true (.t 3)) .none 4 .none
  .false [] .false, .mk (.some 12) (.call 13 [.t 10, .t 11]) .none 5 .none .false [] .false, .mk (.some 13) (.un .not (.t 12)) .none 6 .none .false [] .false, .mk (.some 14) (.mv
  (.t 13)) .none 7 .none .false [] .false, .mk (.some 15) (.load 3 .true (.t 2)) (.some (14, .false)) 8 .none .false [] .false, .mk (.some 16) (.call 32 [.t 15]) (.some (14,
  .false)) 9 .none .false [] .false, .mk (.some 17) (.bin .eql (.t 16) (.k (.int .i64 0))) (.some (14, .false)) 10 .none .false [] .false, .mk (.some 18) (.mv (.t 17)) (.some (14,
  .false)) 11 .none .false [] .false, .mk (.some 19) (.faddr 1 (.t 2)) (.some (18, .true)) 12 .none .false [] .false, .mk (.some 20) (.load 1 .false (.t 19)) (.some (18, .true)) 13
  .none .false [] .false, .mk (.some 21) (.len (.t 20)) (.some (18, .true)) 14 .none .false [] .false, .mk (.some 22) (.bin .gtr (.t 21) (.k (.int .i64 7))) (.some (18, .true)) 15
  .none .false [] .false, .mk (.some 23) (.pick (.t 18) (.t 22) (.k (.bool .false))) (.some (14, .false)) 16 .none .false [] .false, .mk (.some 24) (.pick (.t 14) (.k (.bool .true))
  (.t 23)) .none 17 .none .false [] .false]) (.cond (.t 24) (.seq (.reg 18 2 [.mk (.some 25) (.call 14 []) .none 18 .none .false [] .false, .mk (.some 4) (.mv (.t 25)) .none 19
  .none .false [] .false]) .ret) .skip)) (.seq (.draw 20 10 [3, 2] [] [.mk (.some 27) (.load 3 .true (.t 2)) .none 20 (.some []) .true [] .false, .mk (.some 28) (.call 16 [.t 27])
  .none 21 (.some []) .true [] .false, .mk (.some 29) (.load 2 .true (.t 3)) .none 22 (.some []) .true [] .false, .mk (.some 30) (.call 17 [.t 29]) .none 23 (.some [21]) .false []
  .false, .mk (.some 31) (.call 36 [.t 28, .t 30]) .none 24 (.some [23, 21]) .false [] .false, .mk (.some 26) (.mv (.t 31)) .none 25 (.some [21, 23, 24]) .true [] .false, .mk (.some
  32) (.ext (.t 26) 0) .none 26 (.some [24, 23, 21]) .true [] .false, .mk (.some 33) (.ext (.t 26) 1) .none 27 (.some [24, 23, 21]) .true [] .false, .mk (.some 5) (.mv (.t 32))
  .none 28 (.some [21, 23, 24]) .true [] .false, .mk (.some 6) (.mv (.t 33)) .none 29 (.some [21, 23, 24]) .true [] .false]) (.seq (.draw 30 10 [3, 2] [] [.mk (.some 35) (.load 3
  .true (.t 2)) .none 30 (.some []) .true [] .false, .mk (.some 36) (.call 16 [.t 35]) .none 31 (.some []) .true [] .false, .mk (.some 37) (.load 2 .true (.t 3)) .none 32 (.some [])
  .true [] .false, .mk (.some 38) (.call 17 [.t 37]) .none 33 (.some [31]) .false [] .false, .mk (.some 39) (.call 37 [.t 36, .t 38]) .none 34 (.some [33, 31]) .false [] .false, .mk
  (.some 34) (.mv (.t 39)) .none 35 (.some [31, 33, 34]) .true [] .false, .mk (.some 40) (.ext (.t 34) 0) .none 36 (.some [34, 33, 31]) .true [] .false, .mk (.some 41) (.ext (.t 34)
  1) .none 37 (.some [34, 33, 31]) .true [] .false, .mk (.some 7) (.mv (.t 40)) .none 38 (.some [31, 33, 34]) .true [] .false, .mk (.some 8) (.mv (.t 41)) .none 39 (.some [31, 33,
  34]) .true [] .false]) (.seq (.seq (.reg 40 4 [.mk (.some 42) (.load 3 .true (.t 2)) .none 40 .none .false [] .false, .mk (.some 43) (.load 2 .true (.t 3)) .none 41 .none .false
  [] .false, .mk (.some 44) (.call 18 [.t 42, .t 43]) .none 42 .none .false [] .false, .mk (.some 9) (.mv (.t 44)) .none 43 .none .false [] .false]) (.seq (.reg 44 2 [.mk (.some 45)
  (.mv (.t 9)) .none 44 .none .false [] .false, .mk (.some 46) (.bin .neq (.t 45) (.k (.int .i64 0))) .none 45 .none .false [] .false]) (.cond (.t 46) (.seq (.reg 46 21 [.mk (.some
  47) (.mv (.t 6)) .none 46 .none .false [] .false, .mk (.some 48) (.mv (.t 9)) .none 47 .none .false [] .false, .mk (.some 49) (.bin .eql (.t 47) (.t 48)) .none 48 .none .false []
  .false, .mk (.some 50) (.mv (.t 49)) .none 49 .none .false [] .false, .mk (.some 51) (.mv (.t 8)) (.some (50, .true)) 50 .none .false [] .false, .mk (.some 52) (.mv (.t 9)) (.some
  (50, .true)) 51 .none .false [] .false, .mk (.some 53) (.bin .eql (.t 51) (.t 52)) (.some (50, .true)) 52 .none .false [] .false, .mk (.some 54) (.pick (.t 50) (.t 53) (.k (.bool
  .false))) .none 53 .none .false [] .false, .mk (.some 55) (.mv (.t 54)) .none 54 .none .false [] .false, .mk (.some 56) (.mv (.t 5)) (.some (55, .true)) 55 .none .false [] .false,
  .mk (.some 57) (.len (.t 56)) (.some (55, .true)) 56 .none .false [] .false, .mk (.some 58) (.bin .eql (.t 57) (.k (.int .i64 0))) (.some (55, .true)) 57 .none .false [] .false,
  .mk (.some 59) (.pick (.t 55) (.t 58) (.k (.bool .false))) .none 58 .none .false [] .false, .mk (.some 60) (.mv (.t 59)) .none 59 .none .false [] .false, .mk (.some 61) (.mv (.t
  7)) (.some (60, .true)) 60 .none .false [] .false, .mk (.some 62) (.bin .eql (.t 61) (.k (.int .i64 0))) (.some (60, .true)) 61 .none .false [] .false, .mk (.some 63) (.pick (.t
  60) (.t 62) (.k (.bool .false))) .none 62 .none .false [] .false, .mk (.some 64) (.mv (.t 63)) .none 63 .none .false [] .false, .mk (.some 65) (.call 14 []) (.some (64, .true)) 64
  .none .false [] .false, .mk (.some 66) (.pick (.t 64) (.t 65) (.k (.bool .false))) .none 65 .none .false [] .false, .mk (.some 4) (.mv (.t 66)) .none 66 .none .false [] .false])
  .ret) .skip))) (.seq (.reg 67 24 [.mk (.some 67) (.mv (.t 6)) .none 67 .none .false [] .false, .mk (.some 68) (.bin .eql (.t 67) (.k (.int .i64 0))) .none 68 .none .false []
  .false, .mk (.some 69) (.mv (.t 68)) .none 69 .none .false [] .false, .mk (.some 70) (.mv (.t 8)) (.some (69, .true)) 70 .none .false [] .false, .mk (.some 71) (.bin .eql (.t 70)
  (.k (.int .i64 0))) (.some (69, .true)) 71 .none .false [] .false, .mk (.some 72) (.pick (.t 69) (.t 71) (.k (.bool .false))) .none 72 .none .false [] .false, .mk (.some 73) (.mv
  (.t 72)) .none 73 .none .false [] .false, .mk (.some 74) (.mv (.t 5)) (.some (73, .true)) 74 .none .false [] .false, .mk (.some 75) (.load 3 .true (.t 2)) (.some (73, .true)) 75
  .none .false [] .false, .mk (.some 76) (.load 2 .true (.t 3)) (.some (73, .true)) 76 .none .false [] .false, .mk (.some 77) (.call 39 [.t 75, .t 76]) (.some (73, .true)) 77 .none
  .false [] .false, .mk (.some 78) (.call 38 [.t 74, .t 77]) (.some (73, .true)) 78 .none .false [] .false, .mk (.some 79) (.pick (.t 73) (.t 78) (.k (.bool .false))) .none 79 .none
  .false [] .false, .mk (.some 80) (.mv (.t 79)) .none 80 .none .false [] .false, .mk (.some 81) (.mv (.t 7)) (.some (80, .true)) 81 .none .false [] .false, .mk (.some 82) (.load 3
  .true (.t 2)) (.some (80, .true)) 82 .none .false [] .false, .mk (.some 83) (.load 2 .true (.t 3)) (.some (80, .true)) 83 .none .false [] .false, .mk (.some 84) (.call 40 [.t 82,
  .t 83]) (.some (80, .true)) 84 .none .false [] .false, .mk (.some 85) (.bin .eql (.t 81) (.t 84)) (.some (80, .true)) 85 .none .false [] .false, .mk (.some 86) (.pick (.t 80) (.t
  85) (.k (.bool .false))) .none 86 .none .false [] .false, .mk (.some 87) (.mv (.t 86)) .none 87 .none .false [] .false, .mk (.some 88) (.call 14 []) (.some (87, .true)) 88 .none
  .false [] .false, .mk (.some 89) (.pick (.t 87) (.t 88) (.k (.bool .false))) .none 89 .none .false [] .false, .mk (.some 4) (.mv (.t 89)) .none 90 .none .false [] .false])
  .ret)))))
def rs11 : List IRes := [.tmp 4]
set_option maxRecDepth 100000 in
theorem comp11 : Comp Try.prog 11 ir11 rs11 90 := ⟨⟨_, _, 91, Try.func11, rfl, by kernel_rfl, by kernel_rfl, rfl⟩⟩
def ir14 : IC :=
  .seq (.reg 0 1 [.mk (.some 0) (.mv (.k (.bool .false))) .none 0 .none .false [] .false]) (.seq (.reg 1 8 [.mk (.some 10) (.call 42 []) .none 1 .none .false [] .false, .mk (.some 11)
  (.call 43 [.k (.int .i64 1970), .k (.slice .none 0 0)]) .none 2 .none .false [] .false, .mk (.some 12) (.call 28 [.t 10, .t 11]) .none 3 .none .false [] .false, .mk (.some 9) (.mv
  (.t 12)) .none 4 .none .false [] .false, .mk (.some 13) (.ext (.t 9) 0) .none 5 .none .false [] .false, .mk (.some 14) (.ext (.t 9) 1) .none 6 .none .false [] .false, .mk (.some
  1) (.mv (.t 13)) .none 7 .none .false [] .false, .mk (.some 2) (.mv (.t 14)) .none 8 .none .false [] .false]) (.seq (.reg 9 9 [.mk (.some 16) (.call 42 []) .none 9 .none .false []
  .false, .mk (.some 17) (.bsl 3 1 1 [.int .i64 0] [(0, .k (.int .i64 1))]) .none 10 .none .false [] .false, .mk (.some 18) (.call 43 [.k (.int .i64 1970), .t 17]) .none 11 .none
  .false [] .false, .mk (.some 19) (.call 15 [.t 16, .t 18]) .none 12 .none .false [] .false, .mk (.some 15) (.mv (.t 19)) .none 13 .none .false [] .false, .mk (.some 20) (.ext (.t
  15) 0) .none 14 .none .false [] .false, .mk (.some 21) (.ext (.t 15) 1) .none 15 .none .false [] .false, .mk (.some 3) (.mv (.t 20)) .none 16 .none .false [] .false, .mk (.some 4)
  (.mv (.t 21)) .none 17 .none .false [] .false]) (.seq (.reg 18 8 [.mk (.some 23) (.call 42 []) .none 18 .none .false [] .false, .mk (.some 24) (.call 43 [.k (.int .i64 1970), .k
  (.slice .none 0 0)]) .none 19 .none .false [] .false, .mk (.some 25) (.call 21 [.t 23, .t 24]) .none 20 .none .false [] .false, .mk (.some 22) (.mv (.t 25)) .none 21 .none .false
  [] .false, .mk (.some 26) (.ext (.t 22) 0) .none 22 .none .false [] .false, .mk (.some 27) (.ext (.t 22) 1) .none 23 .none .false [] .false, .mk (.some 5) (.mv (.t 26)) .none 24
  .none .false [] .false, .mk (.some 6) (.mv (.t 27)) .none 25 .none .false [] .false]) (.seq (.reg 26 8 [.mk (.some 29) (.call 42 []) .none 26 .none .false [] .false, .mk (.some
  30) (.call 43 [.k (.int .i64 1970), .k (.slice .none 0 0)]) .none 27 .none .false [] .false, .mk (.some 31) (.call 37 [.t 29, .t 30]) .none 28 .none .false [] .false, .mk (.some
  28) (.mv (.t 31)) .none 29 .none .false [] .false, .mk (.some 32) (.ext (.t 28) 0) .none 30 .none .false [] .false, .mk (.some 33) (.ext (.t 28) 1) .none 31 .none .false []
  .false, .mk (.some 7) (.mv (.t 32)) .none 32 .none .false [] .false, .mk (.some 8) (.mv (.t 33)) .none 33 .none .false [] .false]) (.seq (.reg 34 52 [.mk (.some 34) (.mv (.t 2))
  .none 34 .none .false [] .false, .mk (.some 35) (.bin .eql (.t 34) (.k (.int .i64 0))) .none 35 .none .false [] .false, .mk (.some 36) (.mv (.t 35)) .none 36 .none .false []
  .false, .mk (.some 37) (.mv (.t 4)) (.some (36, .true)) 37 .none .false [] .false, .mk (.some 38) (.bin .eql (.t 37) (.k (.int .i64 0))) (.some (36, .true)) 38 .none .false []
  .false, .mk (.some 39) (.pick (.t 36) (.t 38) (.k (.bool .false))) .none 39 .none .false [] .false, .mk (.some 40) (.mv (.t 39)) .none 40 .none .false [] .false, .mk (.some 41)
  (.mv (.t 6)) (.some (40, .true)) 41 .none .false [] .false, .mk (.some 42) (.bin .eql (.t 41) (.k (.int .i64 0))) (.some (40, .true)) 42 .none .false [] .false, .mk (.some 43)
  (.pick (.t 40) (.t 42) (.k (.bool .false))) .none 43 .none .false [] .false, .mk (.some 44) (.mv (.t 43)) .none 44 .none .false [] .false, .mk (.some 45) (.mv (.t 8)) (.some (44,
  .true)) 45 .none .false [] .false, .mk (.some 46) (.bin .eql (.t 45) (.k (.int .i64 0))) (.some (44, .true)) 46 .none .false [] .false, .mk (.some 47) (.pick (.t 44) (.t 46) (.k
  (.bool .false))) .none 47 .none .false [] .false, .mk (.some 48) (.mv (.t 47)) .none 48 .none .false [] .false, .mk (.some 49) (.mv (.t 1)) (.some (48, .true)) 49 .none .false []
  .false, .mk (.some 50) (.bld [(0, 1), (1, 1)] [.string (ByteArray.mk (Array.mk [])), .int .i64 0] [(0, .k (.string (ByteArray.mk (Array.mk [119, 101])))), (1, .k (.int .i64 1))])
  (.some (48, .true)) 50 .none .false [] .false, .mk (.some 51) (.bld [(0, 1), (1, 1)] [.string (ByteArray.mk (Array.mk [])), .int .i64 0] [(0, .k (.string (ByteArray.mk (Array.mk
  [109, 101, 116])))), (1, .k (.int .i64 1))]) (.some (48, .true)) 51 .none .false [] .false, .mk (.some 52) (.bld [(0, 1), (1, 1)] [.string (ByteArray.mk (Array.mk [])), .int .i64
  0] [(0, .k (.string (ByteArray.mk (Array.mk [116, 104, 101])))), (1, .k (.int .i64 1))]) (.some (48, .true)) 52 .none .false [] .false, .mk (.some 53) (.bld [(0, 1), (1, 1)]
  [.string (ByteArray.mk (Array.mk [])), .int .i64 0] [(1, .k (.int .i64 2))]) (.some (48, .true)) 53 .none .false [] .false, .mk (.some 54) (.bld [(0, 1), (1, 1)] [.string
  (ByteArray.mk (Array.mk [])), .int .i64 0] [(0, .k (.string (ByteArray.mk (Array.mk [116, 111, 100, 97, 121])))), (1, .k (.int .i64 2))]) (.some (48, .true)) 54 .none .false []
  .false, .mk (.some 55) (.bsl 79 2 5 [.string (ByteArray.mk (Array.mk [])), .int .i64 0, .string (ByteArray.mk (Array.mk [])), .int .i64 0, .string (ByteArray.mk (Array.mk [])),
  .int .i64 0, .string (ByteArray.mk (Array.mk [])), .int .i64 0, .string (ByteArray.mk (Array.mk [])), .int .i64 0] [(0, .t 50), (1, .t 51), (2, .t 52), (3, .t 53), (4, .t 54)])
  (.some (48, .true)) 55 .none .false [] .false, .mk (.some 56) (.call 29 [.t 49, .t 55]) (.some (48, .true)) 56 .none .false [] .false, .mk (.some 57) (.pick (.t 48) (.t 56) (.k
  (.bool .false))) .none 57 .none .false [] .false, .mk (.some 58) (.mv (.t 57)) .none 58 .none .false [] .false, .mk (.some 59) (.mv (.t 3)) (.some (58, .true)) 59 .none .false []
  .false, .mk (.some 60) (.bsl 3 1 1 [.int .i64 0] [(0, .k (.int .i64 2))]) (.some (58, .true)) 60 .none .false [] .false, .mk (.some 61) (.bld [(0, 1), (1, 1)] [.int .i64 0, .slice
  .none 0 0] [(0, .k (.int .i64 3)), (1, .t 60)]) (.some (58, .true)) 61 .none .false [] .false, .mk (.some 62) (.bsl 3 1 1 [.int .i64 0] [(0, .k (.int .i64 2))]) (.some (58,
  .true)) 62 .none .false [] .false, .mk (.some 63) (.bld [(0, 1), (1, 1)] [.int .i64 0, .slice .none 0 0] [(0, .k (.int .i64 5)), (1, .t 62)]) (.some (58, .true)) 63 .none .false
  [] .false, .mk (.some 64) (.bsl 3 1 1 [.int .i64 0] [(0, .k (.int .i64 2))]) (.some (58, .true)) 64 .none .false [] .false, .mk (.some 65) (.bld [(0, 1), (1, 1)] [.int .i64 0,
  .slice .none 0 0] [(0, .k (.int .i64 8)), (1, .t 64)]) (.some (58, .true)) 65 .none .false [] .false, .mk (.some 66) (.bsl 47 2 3 [.int .i64 0, .slice .none 0 0, .int .i64 0,
  .slice .none 0 0, .int .i64 0, .slice .none 0 0] [(0, .t 61), (1, .t 63), (2, .t 65)]) (.some (58, .true)) 66 .none .false [] .false, .mk (.some 67) (.call 20 [.t 59, .t 66])
  (.some (58, .true)) 67 .none .false [] .false, .mk (.some 68) (.pick (.t 58) (.t 67) (.k (.bool .false))) .none 68 .none .false [] .false, .mk (.some 69) (.mv (.t 68)) .none 69
  .none .false [] .false, .mk (.some 70) (.mv (.t 5)) (.some (69, .true)) 70 .none .false [] .false, .mk (.some 71) (.len (.t 70)) (.some (69, .true)) 71 .none .false [] .false, .mk
  (.some 72) (.bin .eql (.t 71) (.k (.int .i64 1))) (.some (69, .true)) 72 .none .false [] .false, .mk (.some 73) (.pick (.t 69) (.t 72) (.k (.bool .false))) .none 73 .none .false
  [] .false, .mk (.some 74) (.mv (.t 73)) .none 74 .none .false [] .false, .mk (.some 75) (.mv (.t 5)) (.some (74, .true)) 75 .none .false [] .false, .mk (.some 76) (.iaddr 3 (.t
  75) (.k (.int .i64 0))) (.some (74, .true)) 76 .none .false [] .false, .mk (.some 77) (.load 3 .true (.t 76)) (.some (74, .true)) 77 .none .false [] .false, .mk (.some 78) (.bld
  [(0, 1), (1, 1), (2, 1)] [.int .i64 0, .int .i64 0, .int .i64 0] [(0, .k (.int .i64 3)), (1, .k (.int .i64 6)), (2, .k (.int .i64 1990))]) (.some (74, .true)) 78 .none .false []
  .false, .mk (.some 79) (.pur (.bin .eql 55) [.t 77, .t 78]) (.some (74, .true)) 79 .none .false [] .false, .mk (.some 80) (.pick (.t 74) (.t 79) (.k (.bool .false))) .none 80
  .none .false [] .false, .mk (.some 81) (.mv (.t 80)) .none 81 .none .false [] .false, .mk (.some 82) (.mv (.t 7)) (.some (81, .true)) 82 .none .false [] .false, .mk (.some 83)
  (.bin .eql (.t 82) (.k (.int .i64 2))) (.some (81, .true)) 83 .none .false [] .false, .mk (.some 84) (.pick (.t 81) (.t 83) (.k (.bool .false))) .none 84 .none .false [] .false,
  .mk (.some 0) (.mv (.t 84)) .none 85 .none .false [] .false]) .ret)))))
def rs14 : List IRes := [.tmp 0]
set_option maxRecDepth 100000 in
theorem comp14 : Comp Try.prog 14 ir14 rs14 85 := ⟨⟨_, _, 86, Try.func14, rfl, by kernel_rfl, by kernel_rfl, rfl⟩⟩
theorem body14 : HasBody Try.prog 14 := hasBody_of (by kernel_rfl)

def ir42 : IC :=
  .seq (.reg 0 1 [.mk (.some 0) (.alloc 38 [.slice .none 0 0, .slice .none 0 0, .int .i64 0]) .none 0 .none .false [] .false]) (.seq (.reg 1 17 [.mk (.some 1) (.bld [(0, 1), (1, 1)]
  [.string (ByteArray.mk (Array.mk [])), .slice .none 0 0] [(0, .k (.string (ByteArray.mk (Array.mk [119, 101]))))]) .none 1 .none .false [] .false, .mk (.some 2) (.bld [(0, 1), (1,
  1)] [.string (ByteArray.mk (Array.mk [])), .slice .none 0 0] [(0, .k (.string (ByteArray.mk (Array.mk [109, 101, 116]))))]) .none 2 .none .false [] .false, .mk (.some 3) (.bld
  [(0, 1), (1, 1)] [.string (ByteArray.mk (Array.mk [])), .slice .none 0 0] [(0, .k (.string (ByteArray.mk (Array.mk [116, 104, 101]))))]) .none 3 .none .false [] .false, .mk (.some
  4) (.bsl 3 1 2 [.int .i64 0, .int .i64 0] [(0, .k (.int .i64 3)), (1, .k (.int .i64 5))]) .none 4 .none .false [] .false, .mk (.some 5) (.bld [(0, 1), (1, 1)] [.string
  (ByteArray.mk (Array.mk [])), .slice .none 0 0] [(0, .k (.string (ByteArray.mk (Array.mk [101, 110, 118, 111, 121])))), (1, .t 4)]) .none 5 .none .false [] .false, .mk (.some 6)
  (.bld [(0, 1), (1, 1)] [.string (ByteArray.mk (Array.mk [])), .slice .none 0 0] [(0, .k (.string (ByteArray.mk (Array.mk [105, 110]))))]) .none 6 .none .false [] .false, .mk
  (.some 7) (.bsl 3 1 1 [.int .i64 0] [(0, .k (.int .i64 5))]) .none 7 .none .false [] .false, .mk (.some 8) (.bld [(0, 1), (1, 1)] [.string (ByteArray.mk (Array.mk [])), .slice
  .none 0 0] [(0, .k (.string (ByteArray.mk (Array.mk [66, 101, 114, 110])))), (1, .t 7)]) .none 8 .none .false [] .false, .mk (.some 9) (.bsl 3 1 1 [.int .i64 0] [(0, .k (.int .i64
  8))]) .none 9 .none .false [] .false, .mk (.some 10) (.bld [(0, 1), (1, 1)] [.string (ByteArray.mk (Array.mk [])), .slice .none 0 0] [(0, .k (.string (ByteArray.mk (Array.mk [116,
  111, 100, 97, 121])))), (1, .t 9)]) .none 10 .none .false [] .false, .mk (.some 11) (.bsl 104 2 7 [.string (ByteArray.mk (Array.mk [])), .slice .none 0 0, .string (ByteArray.mk
  (Array.mk [])), .slice .none 0 0, .string (ByteArray.mk (Array.mk [])), .slice .none 0 0, .string (ByteArray.mk (Array.mk [])), .slice .none 0 0, .string (ByteArray.mk (Array.mk
  [])), .slice .none 0 0, .string (ByteArray.mk (Array.mk [])), .slice .none 0 0, .string (ByteArray.mk (Array.mk [])), .slice .none 0 0] [(0, .t 1), (1, .t 2), (2, .t 3), (3, .t
  5), (4, .t 6), (5, .t 8), (6, .t 10)]) .none 11 .none .false [] .false, .mk (.some 12) (.bld [(0, 1), (1, 1), (2, 1), (3, 1)] [.int .i64 0, .int .i64 0, .int .i64 0, .int .i64 0]
  [(0, .k (.int .i64 3)), (1, .k (.int .i64 4)), (2, .k (.int .i64 1)), (3, .k (.int .i64 1990))]) .none 12 .none .false [] .false, .mk (.some 13) (.bld [(0, 1), (1, 1), (2, 1), (3,
  1)] [.int .i64 0, .int .i64 0, .int .i64 0, .int .i64 0] [(0, .k (.int .i64 4)), (1, .k (.int .i64 6)), (2, .k (.int .i64 2)), (3, .k (.int .i64 1980))]) .none 13 .none .false []
  .false, .mk (.some 14) (.bld [(0, 1), (1, 1), (2, 1), (3, 1)] [.int .i64 0, .int .i64 0, .int .i64 0, .int .i64 0] [(0, .k (.int .i64 5)), (1, .k (.int .i64 6)), (2, .k (.int .i64
  1)), (3, .k (.int .i64 1975))]) .none 14 .none .false [] .false, .mk (.some 15) (.bsl 65 4 3 [.int .i64 0, .int .i64 0, .int .i64 0, .int .i64 0, .int .i64 0, .int .i64 0, .int
  .i64 0, .int .i64 0, .int .i64 0, .int .i64 0, .int .i64 0, .int .i64 0] [(0, .t 12), (1, .t 13), (2, .t 14)]) .none 15 .none .false [] .false, .mk (.some 16) (.bld [(0, 1), (1,
  1), (2, 1)] [.slice .none 0 0, .slice .none 0 0, .int .i64 0] [(2, .k (.int .i64 3)), (0, .t 11), (1, .t 15)]) .none 16 .none .false [] .false, .mk .none (.store 3 (.t 0) (.t 16))
  .none 17 .none .false [] .false]) .ret)
def rs42 : List IRes := [.cell 0 3 .true]
set_option maxRecDepth 100000 in
theorem comp42 : Comp Try.prog 42 ir42 rs42 17 := ⟨⟨_, _, 18, Try.func42, rfl, by kernel_rfl, by kernel_rfl, rfl⟩⟩
theorem body42 : HasBody Try.prog 42 := hasBody_of (by kernel_rfl)

def ir43 : IC :=
  .seq (.reg 0 1 [.mk (.some 4) (.alloc 40 [.int .i64 0, .slice .none 0 0]) .none 0 .none .false [] .false]) (.seq (.reg 1 4 [.mk (.some 5) (.mv (.t 0)) .none 1 .none .false []
  .false, .mk (.some 6) (.mv (.t 1)) .none 2 .none .false [] .false, .mk (.some 7) (.bld [(0, 1), (1, 1)] [.int .i64 0, .slice .none 0 0] [(0, .t 5), (1, .t 6)]) .none 3 .none
  .false [] .false, .mk .none (.store 2 (.t 4) (.t 7)) .none 4 .none .false [] .false]) .ret)
def rs43 : List IRes := [.cell 4 2 .true]
set_option maxRecDepth 100000 in
theorem comp43 : Comp Try.prog 43 ir43 rs43 8 := ⟨⟨_, _, 5, Try.func43, rfl, by kernel_rfl, by kernel_rfl, rfl⟩⟩
theorem body43 : HasBody Try.prog 43 := hasBody_of (by kernel_rfl)

end Go.Proofs.Ytpcpjmplgladmaa

namespace Go.Proofs.Ytpcpjmplgladmaa
open Go.Pal
def ir57 : IC :=
  .seq (.reg 0 2 [.mk (.some 1) (.box 104 (.t 0)) .none 0 .none .false [] .false, .mk (.some 2) (.mv (.k (.bool .false))) .none 1 .none .false [] .false]) (.seq (.reg 2 5 [.mk (.some
  3) (.faddr 1 (.t 1)) .none 2 .none .false [] .false, .mk (.some 4) (.load 1 .false (.t 3)) .none 3 .none .false [] .false, .mk (.some 5) (.len (.t 4)) .none 4 .none .false []
  .false, .mk (.some 6) (.bin .leq (.t 5) (.k (.int .i64 5))) .none 5 .none .false [] .false, .mk (.some 2) (.mv (.t 6)) .none 6 .none .false [] .false]) .ret)
def rs57 : List IRes := [.tmp 2]
set_option maxRecDepth 100000 in
theorem comp57 : Comp Try.prog 57 ir57 rs57 7 := ⟨⟨_, _, 7, Try.func57, rfl, by kernel_rfl, by kernel_rfl, rfl⟩⟩
theorem body57 : HasBody Try.prog 57 := hasBody_of (by kernel_rfl)

def ir79 : IC :=
  .seq (.reg 0 1 [.mk (.some 2) (.mv (.k (.bool .false))) .none 0 .none .false [] .false]) (.seq (.reg 1 7 [.mk (.some 3) (.mv (.t 0)) .none 1 .none .false [] .false, .mk (.some 4)
  (.bin .leq (.k (.int .u8 33)) (.t 3)) .none 2 .none .false [] .false, .mk (.some 5) (.mv (.t 4)) .none 3 .none .false [] .false, .mk (.some 6) (.mv (.t 0)) (.some (5, .true)) 4
  .none .false [] .false, .mk (.some 7) (.bin .leq (.t 6) (.k (.int .u8 126))) (.some (5, .true)) 5 .none .false [] .false, .mk (.some 8) (.pick (.t 5) (.t 7) (.k (.bool .false)))
  .none 6 .none .false [] .false, .mk (.some 2) (.mv (.t 8)) .none 7 .none .false [] .false]) .ret)
def rs79 : List IRes := [.tmp 2]
set_option maxRecDepth 100000 in
theorem comp79 : Comp Try.prog 79 ir79 rs79 9 := ⟨⟨_, _, 8, Try.func79, rfl, by kernel_rfl, by kernel_rfl, rfl⟩⟩
theorem body79 : HasBody Try.prog 79 := hasBody_of (by kernel_rfl)

def ir78 : IC :=
  .seq (.reg 0 2 [.mk (.some 3) (.box 130 (.t 1)) .none 0 .none .false [] .false, .mk (.some 4) (.mv (.k (.bool .false))) .none 1 .none .false [] .false]) (.seq (.reg 2 5 [.mk (.some
  5) (.mv (.t 0)) .none 2 .none .false [] .false, .mk (.some 6) (.mkf 87 [] [.t 3]) .none 3 .none .false [] .false, .mk (.some 7) (.call 86 [.t 5, .t 6]) .none 4 .none .false []
  .false, .mk (.some 8) (.un .not (.t 7)) .none 5 .none .false [] .false, .mk (.some 4) (.mv (.t 8)) .none 6 .none .false [] .false]) .ret)
def rs78 : List IRes := [.tmp 4]
set_option maxRecDepth 100000 in
theorem comp78 : Comp Try.prog 78 ir78 rs78 9 := ⟨⟨_, _, 7, Try.func78, rfl, by kernel_rfl, by kernel_rfl, rfl⟩⟩
theorem body78 : HasBody Try.prog 78 := hasBody_of (by kernel_rfl)

def ir77 : IC :=
  .seq (.reg 1 2 [.mk (.some 2) (.box 104 (.t 0)) .none 1 .none .false [] .false, .mk (.some 3) (.mv (.k (.bool .false))) .none 2 .none .false [] .false]) (.seq (.reg 3 5 [.mk (.some
  4) (.load 1 .false (.t 1)) .none 3 .none .false [] .false, .mk (.some 5) (.load 2 .true (.t 2)) .none 4 .none .false [] .false, .mk (.some 6) (.callv (.t 4) [.t 5]) .none 5 .none
  .false [] .false, .mk (.some 7) (.un .not (.t 6)) .none 6 .none .false [] .false, .mk (.some 3) (.mv (.t 7)) .none 7 .none .false [] .false]) .ret)
def rs77 : List IRes := [.tmp 3]
set_option maxRecDepth 100000 in
theorem comp77 : CompAt Try.prog 77 1 ir77 rs77 8 := ⟨⟨_, _, 8, Try.func77, rfl, by kernel_rfl, by kernel_rfl, rfl⟩⟩
theorem body77 : HasBody Try.prog 77 := hasBody_of (by kernel_rfl)

def ir76 : IC :=
  .seq (.reg 1 1 [.mk (.some 4) (.mv (.k (.bool .false))) .none 1 .none .false [] .false]) (.seq (.reg 2 5 [.mk (.some 5) (.mv (.t 0)) .none 2 .none .false [] .false, .mk (.some 6)
  (.mv (.t 1)) .none 3 .none .false [] .false, .mk (.some 7) (.call 85 [.t 5, .t 6]) .none 4 .none .false [] .false, .mk (.some 8) (.bin .geq (.t 7) (.k (.int .i64 0))) .none 5
  .none .false [] .false, .mk (.some 4) (.mv (.t 8)) .none 6 .none .false [] .false]) .ret)
def rs76 : List IRes := [.tmp 4]
set_option maxRecDepth 100000 in
theorem comp76 : CompAt Try.prog 76 1 ir76 rs76 9 := ⟨⟨_, _, 7, Try.func76, rfl, by kernel_rfl, by kernel_rfl, rfl⟩⟩
theorem body76 : HasBody Try.prog 76 := hasBody_of (by kernel_rfl)

def ir85 : IC :=
  .seq (.reg 1 1 [.mk (.some 4) (.mv (.k (.int .i64 0))) .none 1 .none .false [] .false]) (.seq (.seq (.reg 2 3 [.mk (.some 6) (.mv (.t 0)) .none 2 .none .false [] .false, .mk (.some
  7) (.len (.t 6)) .none 3 .none .false [] .false, .mk (.some 8) (.mv (.k (.int .i64 0))) .none 4 .none .false [] .false]) (.block 0 (.loop (.seq (.reg 5 1 [.mk (.some 9) (.bin .lss
  (.t 8) (.t 7)) .none 5 .none .false [] .false]) (.seq (.cond (.t 9) .skip (.exit 0)) (.seq (.block 1 (.seq (.reg 6 2 [.mk (.some 10) (.mv (.t 8)) .none 6 .none .false [] .false,
  .mk (.some 5) (.mv (.t 10)) .none 7 .none .false [] .false]) (.seq (.reg 8 6 [.mk (.some 11) (.mv (.t 1)) .none 8 .none .false [] .false, .mk (.some 12) (.mv (.t 0)) .none 9 .none
  .false [] .false, .mk (.some 13) (.mv (.t 5)) .none 10 .none .false [] .false, .mk (.some 14) (.iaddr 2 (.t 12) (.t 13)) .none 11 .none .false [] .false, .mk (.some 15) (.load 2
  .true (.t 14)) .none 12 .none .false [] .false, .mk (.some 16) (.callv (.t 11) [.t 15]) .none 13 .none .false [] .false]) (.cond (.t 16) (.seq (.reg 14 2 [.mk (.some 17) (.mv (.t
  5)) .none 14 .none .false [] .false, .mk (.some 4) (.mv (.t 17)) .none 15 .none .false [] .false]) .ret) .skip)))) (.reg 16 2 [.mk (.some 18) (.bin .add (.t 8) (.k (.int .i64 1)))
  .none 16 .none .false [] .false, .mk (.some 8) (.mv (.t 18)) .none 17 .none .false [] .false]))))))) (.seq (.reg 18 1 [.mk (.some 4) (.mv (.k (.int .i64 (-1)))) .none 18 .none
  .false [] .false]) .ret))
def rs85 : List IRes := [.tmp 4]
set_option maxRecDepth 100000 in
theorem comp85 : CompAt Try.prog 85 1 ir85 rs85 19 := ⟨⟨_, _, 19, Try.func85, rfl, by kernel_rfl, by kernel_rfl, rfl⟩⟩
theorem body85 : HasBody Try.prog 85 := hasBody_of (by kernel_rfl)

def ir81 : IC :=
  .seq (.reg 2 2 [.mk (.some 2) (.box 65 (.t 0)) .none 2 .none .false [] .false, .mk (.some 3) (.mv (.k (.bool .false))) .none 3 .none .false [] .false]) (.seq (.reg 4 5 [.mk (.some
  4) (.load 1 .false (.t 1)) .none 4 .none .false [] .false, .mk (.some 5) (.load 4 .true (.t 2)) .none 5 .none .false [] .false, .mk (.some 6) (.callv (.t 4) [.t 5]) .none 6 .none
  .false [] .false, .mk (.some 7) (.un .not (.t 6)) .none 7 .none .false [] .false, .mk (.some 3) (.mv (.t 7)) .none 8 .none .false [] .false]) .ret)
def rs81 : List IRes := [.tmp 3]
set_option maxRecDepth 100000 in
theorem comp81 : CompAt Try.prog 81 2 ir81 rs81 8 := ⟨⟨_, _, 9, Try.func81, rfl, by kernel_rfl, by kernel_rfl, rfl⟩⟩
theorem body81 : HasBody Try.prog 81 := hasBody_of (by kernel_rfl)

def ir80 : IC :=
  .seq (.reg 2 1 [.mk (.some 4) (.mv (.k (.bool .false))) .none 2 .none .false [] .false]) (.seq (.reg 3 5 [.mk (.some 5) (.mv (.t 0)) .none 3 .none .false [] .false, .mk (.some 6)
  (.mv (.t 1)) .none 4 .none .false [] .false, .mk (.some 7) (.call 88 [.t 5, .t 6]) .none 5 .none .false [] .false, .mk (.some 8) (.bin .geq (.t 7) (.k (.int .i64 0))) .none 6
  .none .false [] .false, .mk (.some 4) (.mv (.t 8)) .none 7 .none .false [] .false]) .ret)
def rs80 : List IRes := [.tmp 4]
set_option maxRecDepth 100000 in
theorem comp80 : CompAt Try.prog 80 2 ir80 rs80 9 := ⟨⟨_, _, 8, Try.func80, rfl, by kernel_rfl, by kernel_rfl, rfl⟩⟩
theorem body80 : HasBody Try.prog 80 := hasBody_of (by kernel_rfl)

def ir88 : IC :=
  .seq (.reg 2 1 [.mk (.some 4) (.mv (.k (.int .i64 0))) .none 2 .none .false [] .false]) (.seq (.seq (.reg 3 3 [.mk (.some 6) (.mv (.t 0)) .none 3 .none .false [] .false, .mk (.some
  7) (.len (.t 6)) .none 4 .none .false [] .false, .mk (.some 8) (.mv (.k (.int .i64 0))) .none 5 .none .false [] .false]) (.block 0 (.loop (.seq (.reg 6 1 [.mk (.some 9) (.bin .lss
  (.t 8) (.t 7)) .none 6 .none .false [] .false]) (.seq (.cond (.t 9) .skip (.exit 0)) (.seq (.block 1 (.seq (.reg 7 2 [.mk (.some 10) (.mv (.t 8)) .none 7 .none .false [] .false,
  .mk (.some 5) (.mv (.t 10)) .none 8 .none .false [] .false]) (.seq (.reg 9 6 [.mk (.some 11) (.mv (.t 1)) .none 9 .none .false [] .false, .mk (.some 12) (.mv (.t 0)) .none 10
  .none .false [] .false, .mk (.some 13) (.mv (.t 5)) .none 11 .none .false [] .false, .mk (.some 14) (.iaddr 4 (.t 12) (.t 13)) .none 12 .none .false [] .false, .mk (.some 15)
  (.load 4 .true (.t 14)) .none 13 .none .false [] .false, .mk (.some 16) (.callv (.t 11) [.t 15]) .none 14 .none .false [] .false]) (.cond (.t 16) (.seq (.reg 15 2 [.mk (.some 17)
  (.mv (.t 5)) .none 15 .none .false [] .false, .mk (.some 4) (.mv (.t 17)) .none 16 .none .false [] .false]) .ret) .skip)))) (.reg 17 2 [.mk (.some 18) (.bin .add (.t 8) (.k (.int
  .i64 1))) .none 17 .none .false [] .false, .mk (.some 8) (.mv (.t 18)) .none 18 .none .false [] .false]))))))) (.seq (.reg 19 1 [.mk (.some 4) (.mv (.k (.int .i64 (-1)))) .none 19
  .none .false [] .false]) .ret))
def rs88 : List IRes := [.tmp 4]
set_option maxRecDepth 100000 in
theorem comp88 : CompAt Try.prog 88 2 ir88 rs88 19 := ⟨⟨_, _, 20, Try.func88, rfl, by kernel_rfl, by kernel_rfl, rfl⟩⟩
theorem body88 : HasBody Try.prog 88 := hasBody_of (by kernel_rfl)

def ir87 : IC :=
  .seq (.reg 1 1 [.mk (.some 3) (.mv (.k (.bool .false))) .none 1 .none .false [] .false]) (.seq (.reg 2 5 [.mk (.some 4) (.load 1 .false (.t 1)) .none 2 .none .false [] .false, .mk
  (.some 5) (.mv (.t 0)) .none 3 .none .false [] .false, .mk (.some 6) (.callv (.t 4) [.t 5]) .none 4 .none .false [] .false, .mk (.some 7) (.un .not (.t 6)) .none 5 .none .false []
  .false, .mk (.some 3) (.mv (.t 7)) .none 6 .none .false [] .false]) .ret)
def rs87 : List IRes := [.tmp 3]
set_option maxRecDepth 100000 in
theorem comp87 : CompAt Try.prog 87 1 ir87 rs87 8 := ⟨⟨_, _, 7, Try.func87, rfl, by kernel_rfl, by kernel_rfl, rfl⟩⟩
theorem body87 : HasBody Try.prog 87 := hasBody_of (by kernel_rfl)

def ir86 : IC :=
  .seq (.reg 1 1 [.mk (.some 4) (.mv (.k (.bool .false))) .none 1 .none .false [] .false]) (.seq (.reg 2 5 [.mk (.some 5) (.mv (.t 0)) .none 2 .none .false [] .false, .mk (.some 6)
  (.mv (.t 1)) .none 3 .none .false [] .false, .mk (.some 7) (.call 100 [.t 5, .t 6]) .none 4 .none .false [] .false, .mk (.some 8) (.bin .geq (.t 7) (.k (.int .i64 0))) .none 5
  .none .false [] .false, .mk (.some 4) (.mv (.t 8)) .none 6 .none .false [] .false]) .ret)
def rs86 : List IRes := [.tmp 4]
set_option maxRecDepth 100000 in
theorem comp86 : CompAt Try.prog 86 1 ir86 rs86 9 := ⟨⟨_, _, 7, Try.func86, rfl, by kernel_rfl, by kernel_rfl, rfl⟩⟩
theorem body86 : HasBody Try.prog 86 := hasBody_of (by kernel_rfl)

def ir100 : IC :=
  .seq (.reg 1 1 [.mk (.some 4) (.mv (.k (.int .i64 0))) .none 1 .none .false [] .false]) (.seq (.seq (.reg 2 3 [.mk (.some 6) (.mv (.t 0)) .none 2 .none .false [] .false, .mk (.some
  7) (.len (.t 6)) .none 3 .none .false [] .false, .mk (.some 8) (.mv (.k (.int .i64 0))) .none 4 .none .false [] .false]) (.block 0 (.loop (.seq (.reg 5 1 [.mk (.some 9) (.bin .lss
  (.t 8) (.t 7)) .none 5 .none .false [] .false]) (.seq (.cond (.t 9) .skip (.exit 0)) (.seq (.block 1 (.seq (.reg 6 2 [.mk (.some 10) (.mv (.t 8)) .none 6 .none .false [] .false,
  .mk (.some 5) (.mv (.t 10)) .none 7 .none .false [] .false]) (.seq (.reg 8 6 [.mk (.some 11) (.mv (.t 1)) .none 8 .none .false [] .false, .mk (.some 12) (.mv (.t 0)) .none 9 .none
  .false [] .false, .mk (.some 13) (.mv (.t 5)) .none 10 .none .false [] .false, .mk (.some 14) (.iaddr 1 (.t 12) (.t 13)) .none 11 .none .false [] .false, .mk (.some 15) (.load 1
  .false (.t 14)) .none 12 .none .false [] .false, .mk (.some 16) (.callv (.t 11) [.t 15]) .none 13 .none .false [] .false]) (.cond (.t 16) (.seq (.reg 14 2 [.mk (.some 17) (.mv (.t
  5)) .none 14 .none .false [] .false, .mk (.some 4) (.mv (.t 17)) .none 15 .none .false [] .false]) .ret) .skip)))) (.reg 16 2 [.mk (.some 18) (.bin .add (.t 8) (.k (.int .i64 1)))
  .none 16 .none .false [] .false, .mk (.some 8) (.mv (.t 18)) .none 17 .none .false [] .false]))))))) (.seq (.reg 18 1 [.mk (.some 4) (.mv (.k (.int .i64 (-1)))) .none 18 .none
  .false [] .false]) .ret))
def rs100 : List IRes := [.tmp 4]
set_option maxRecDepth 100000 in
theorem comp100 : CompAt Try.prog 100 1 ir100 rs100 19 := ⟨⟨_, _, 19, Try.func100, rfl, by kernel_rfl, by kernel_rfl, rfl⟩⟩
theorem body100 : HasBody Try.prog 100 := hasBody_of (by kernel_rfl)

def ir54 : IC :=
  .seq (.reg 1 2 [.mk (.some 2) (.box 65 (.t 0)) .none 1 .none .false [] .false, .mk (.some 3) (.mv (.k (.bool .false))) .none 2 .none .false [] .false]) (.seq (.reg 3 29 [.mk (.some
  4) (.faddr 0 (.t 2)) .none 3 .none .false [] .false, .mk (.some 5) (.load 1 .false (.t 4)) .none 4 .none .false [] .false, .mk (.some 6) (.bin .leq (.k (.int .i64 0)) (.t 5))
  .none 5 .none .false [] .false, .mk (.some 7) (.mv (.t 6)) .none 6 .none .false [] .false, .mk (.some 8) (.faddr 0 (.t 2)) (.some (7, .true)) 7 .none .false [] .false, .mk (.some
  9) (.load 1 .false (.t 8)) (.some (7, .true)) 8 .none .false [] .false, .mk (.some 10) (.faddr 1 (.t 2)) (.some (7, .true)) 9 .none .false [] .false, .mk (.some 11) (.load 1
  .false (.t 10)) (.some (7, .true)) 10 .none .false [] .false, .mk (.some 12) (.bin .lss (.t 9) (.t 11)) (.some (7, .true)) 11 .none .false [] .false, .mk (.some 13) (.pick (.t 7)
  (.t 12) (.k (.bool .false))) .none 12 .none .false [] .false, .mk (.some 14) (.mv (.t 13)) .none 13 .none .false [] .false, .mk (.some 15) (.faddr 1 (.t 2)) (.some (14, .true)) 14
  .none .false [] .false, .mk (.some 16) (.load 1 .false (.t 15)) (.some (14, .true)) 15 .none .false [] .false, .mk (.some 17) (.faddr 0 (.t 1)) (.some (14, .true)) 16 .none .false
  [] .false, .mk (.some 18) (.load 1 .false (.t 17)) (.some (14, .true)) 17 .none .false [] .false, .mk (.some 19) (.len (.t 18)) (.some (14, .true)) 18 .none .false [] .false, .mk
  (.some 20) (.bin .leq (.t 16) (.t 19)) (.some (14, .true)) 19 .none .false [] .false, .mk (.some 21) (.pick (.t 14) (.t 20) (.k (.bool .false))) .none 20 .none .false [] .false,
  .mk (.some 22) (.mv (.t 21)) .none 21 .none .false [] .false, .mk (.some 23) (.faddr 2 (.t 2)) (.some (22, .true)) 22 .none .false [] .false, .mk (.some 24) (.load 1 .false (.t
  23)) (.some (22, .true)) 23 .none .false [] .false, .mk (.some 25) (.call 51 [.t 24, .k (.int .i64 0), .k (.int .i64 7)]) (.some (22, .true)) 24 .none .false [] .false, .mk (.some
  26) (.pick (.t 22) (.t 25) (.k (.bool .false))) .none 25 .none .false [] .false, .mk (.some 27) (.mv (.t 26)) .none 26 .none .false [] .false, .mk (.some 28) (.faddr 3 (.t 2))
  (.some (27, .true)) 27 .none .false [] .false, .mk (.some 29) (.load 1 .false (.t 28)) (.some (27, .true)) 28 .none .false [] .false, .mk (.some 30) (.call 55 [.t 29]) (.some (27,
  .true)) 29 .none .false [] .false, .mk (.some 31) (.pick (.t 27) (.t 30) (.k (.bool .false))) .none 30 .none .false [] .false, .mk (.some 3) (.mv (.t 31)) .none 31 .none .false []
  .false]) .ret)
def rs54 : List IRes := [.tmp 3]
set_option maxRecDepth 100000 in
theorem comp54 : CompAt Try.prog 54 1 ir54 rs54 32 := ⟨⟨_, _, 32, Try.func54, rfl, by kernel_rfl, by kernel_rfl, rfl⟩⟩
theorem body54 : HasBody Try.prog 54 := hasBody_of (by kernel_rfl)

def ir70 : IC :=
  .seq (.reg 0 1 [.mk (.some 3) (.mv (.k (.int .i64 0))) .none 0 .none .false [] .false]) (.seq (.reg 1 5 [.mk (.some 8) (.faddr 0 (.t 1)) .none 1 .none .false [] .false, .mk (.some
  9) (.faddr 0 (.t 8)) .none 2 .none .false [] .false, .mk (.some 10) (.load 1 .false (.t 9)) .none 3 .none .false [] .false, .mk (.some 11) (.len (.t 10)) .none 4 .none .false []
  .false, .mk (.some 12) (.mv (.k (.int .i64 0))) .none 5 .none .false [] .false]) (.block 0 (.loop (.seq (.reg 6 1 [.mk (.some 13) (.bin .lss (.t 12) (.t 11)) .none 6 .none .false
  [] .false]) (.seq (.cond (.t 13) .skip (.exit 0)) (.seq (.block 1 (.seq (.reg 7 6 [.mk (.some 14) (.mv (.t 12)) .none 7 .none .false [] .false, .mk (.some 15) (.iaddr 2 (.t 10)
  (.t 12)) .none 8 .none .false [] .false, .mk (.some 16) (.load 2 .true (.t 15)) .none 9 .none .false [] .false, .mk (.some 5) (.alloc 104 [.string (ByteArray.mk (Array.mk [])),
  .slice .none 0 0]) .none 10 .none .false [] .false, .mk (.some 4) (.mv (.t 14)) .none 11 .none .false [] .false, .mk .none (.store 2 (.t 5) (.t 16)) .none 12 .none .false []
  .false]) (.seq (.draw 13 13 [] [] [.mk (.some 17) (.faddr 0 (.t 5)) .none 13 (.some []) .true [] .false, .mk (.some 18) (.load 1 .false (.t 17)) .none 14 (.some []) .true []
  .false, .mk (.some 19) (.mv (.t 3)) .none 15 (.some []) .true [] .false, .mk (.some 20) (.faddr 0 (.t 1)) .none 16 (.some []) .true [] .false, .mk (.some 21) (.faddr 2 (.t 20))
  .none 17 (.some []) .true [] .false, .mk (.some 22) (.load 1 .false (.t 21)) .none 18 (.some []) .true [] .false, .mk (.some 23) (.bin .quo (.t 19) (.t 22)) .none 19 (.some [])
  .true [] .false, .mk (.some 24) (.bin .add (.t 23) (.k (.int .i64 1))) .none 20 (.some []) .true [] .false, .mk (.some 25) (.bld [(0, 1), (1, 1)] [.string (ByteArray.mk (Array.mk
  [])), .int .i64 0] [(0, .t 18), (1, .t 24)]) .none 21 (.some []) .true [] .false, .mk (.some 26) (.mv (.t 4)) .none 22 (.some []) .true [] .false, .mk (.some 6) (.alloc 79
  [.string (ByteArray.mk (Array.mk [])), .int .i64 0]) .none 23 (.some []) .true [] .false, .mk .none (.store 2 (.t 6) (.t 25)) .none 24 (.some [23]) .true [] .false, .mk (.some 7)
  (.mv (.t 26)) .none 25 (.some [23]) .true [] .false]) (.seq (.seq (.reg 26 4 [.mk (.some 27) (.mv (.t 4)) .none 26 .none .false [] .false, .mk (.some 28) (.faddr 5 (.t 1)) .none
  27 .none .false [] .false, .mk (.some 29) (.aaddr 1 60 (.t 28) (.t 27)) .none 28 .none .false [] .false, .mk (.some 30) (.load 1 .false (.t 29)) .none 29 .none .false [] .false])
  (.cond (.t 30) (.seq (.seq (.reg 30 9 [.mk (.some 31) (.mv (.t 4)) .none 30 .none .false [] .false, .mk (.some 32) (.bin .gtr (.t 31) (.k (.int .i64 0))) .none 31 .none .false []
  .false, .mk (.some 33) (.mv (.t 32)) .none 32 .none .false [] .false, .mk (.some 34) (.mv (.t 4)) (.some (33, .true)) 33 .none .false [] .false, .mk (.some 35) (.bin .sub (.t 34)
  (.k (.int .i64 1))) (.some (33, .true)) 34 .none .false [] .false, .mk (.some 36) (.faddr 5 (.t 1)) (.some (33, .true)) 35 .none .false [] .false, .mk (.some 37) (.aaddr 1 60 (.t
  36) (.t 35)) (.some (33, .true)) 36 .none .false [] .false, .mk (.some 38) (.load 1 .false (.t 37)) (.some (33, .true)) 37 .none .false [] .false, .mk (.some 39) (.pick (.t 33)
  (.t 38) (.k (.bool .false))) .none 38 .none .false [] .false]) (.cond (.t 39) (.exit 1) .skip)) (.reg 39 3 [.mk (.some 40) (.faddr 0 (.t 6)) .none 39 .none .false [] .false, .mk
  .none (.store 1 (.t 40) (.k (.string (ByteArray.mk (Array.mk []))))) .none 40 .none .false [] .false, .mk (.some 7) (.mv (.k (.int .i64 (-1)))) .none 41 .none .false [] .false]))
  .skip)) (.seq (.seq (.reg 42 5 [.mk (.some 41) (.mv (.t 0)) .none 42 .none .false [] .false, .mk (.some 42) (.mv (.t 7)) .none 43 .none .false [] .false, .mk (.some 43) (.load 2
  .true (.t 6)) .none 44 .none .false [] .false, .mk (.some 44) (.callv (.t 41) [.t 42, .t 43]) .none 45 .none .false [] .false, .mk (.some 45) (.un .not (.t 44)) .none 46 .none
  .false [] .false]) (.cond (.t 45) .ret .skip)) (.reg 47 3 [.mk (.some 46) (.mv (.t 3)) .none 47 .none .false [] .false, .mk (.some 47) (.bin .add (.t 46) (.k (.int .i64 1))) .none
  48 .none .false [] .false, .mk (.some 3) (.mv (.t 47)) .none 49 .none .false [] .false])))))) (.reg 50 2 [.mk (.some 48) (.bin .add (.t 12) (.k (.int .i64 1))) .none 50 .none
  .false [] .false, .mk (.some 12) (.mv (.t 48)) .none 51 .none .false [] .false])))))))
def rs70 : List IRes := []
set_option maxRecDepth 100000 in
theorem comp70 : Comp Try.prog 70 ir70 rs70 49 := ⟨⟨_, _, 52, Try.func70, rfl, by kernel_rfl, by kernel_rfl, rfl⟩⟩
theorem body70 : HasBody Try.prog 70 := hasBody_of (by kernel_rfl)

end Go.Proofs.Ytpcpjmplgladmaa

namespace Go.Proofs.Ytpcpjmplgladmaa
open Go.Pal
end Go.Proofs.Ytpcpjmplgladmaa
