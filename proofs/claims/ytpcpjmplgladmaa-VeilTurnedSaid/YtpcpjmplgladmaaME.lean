/- The intermediate forms of functions of the program (printed by a program of mine), each checked against the code. The intermediate forms of functions of the program (printed by a program of mine), each checked against the code. -/
import Derived.Test.YtpcpjmplgladmaaMC
import Derived.Test.YtpcpjmplgladmaaProg
import Derived.KernelRfl
set_option linter.unusedSimpArgs false
set_option linter.unusedVariables false
namespace Go.Proofs.Ytpcpjmplgladmaa
open Go.Pal
def ir7 : IC :=
  .seq (.reg 0 3 [.mk (.some 4) (.box 25 (.t 0)) .none 0 .none .false [] .false, .mk (.some 5) (.box 28 (.t 1)) .none 1 .none .false [] .false, .mk (.some 8) (.mv (.k (.bool .false)))
  .none 2 .none .false [] .false]) (.seq (.seq (.reg 3 10 [.mk (.some 24) (.load 3 .true (.t 4)) .none 3 .none .false [] .false, .mk (.some 25) (.load 2 .true (.t 5)) .none 4 .none
  .false [] .false, .mk (.some 26) (.call 23 [.t 24, .t 25]) .none 5 .none .false [] .false, .mk (.some 27) (.un .not (.t 26)) .none 6 .none .false [] .false, .mk (.some 28) (.mv
  (.t 27)) .none 7 .none .false [] .false, .mk (.some 29) (.faddr 1 (.t 4)) (.some (28, .false)) 8 .none .false [] .false, .mk (.some 30) (.load 1 .false (.t 29)) (.some (28,
  .false)) 9 .none .false [] .false, .mk (.some 31) (.len (.t 30)) (.some (28, .false)) 10 .none .false [] .false, .mk (.some 32) (.bin .eql (.t 31) (.k (.int .i64 0))) (.some (28,
  .false)) 11 .none .false [] .false, .mk (.some 33) (.pick (.t 28) (.k (.bool .true)) (.t 32)) .none 12 .none .false [] .false]) (.cond (.t 33) (.seq (.reg 13 2 [.mk (.some 34)
  (.call 14 []) .none 13 .none .false [] .false, .mk (.some 8) (.mv (.t 34)) .none 14 .none .false [] .false]) .ret) .skip)) (.seq (.reg 15 4 [.mk (.some 35) (.faddr 1 (.t 4)) .none
  15 .none .false [] .false, .mk (.some 36) (.load 1 .false (.t 35)) .none 16 .none .false [] .false, .mk (.some 37) (.len (.t 36)) .none 17 .none .false [] .false, .mk (.some 9)
  (.mv (.t 37)) .none 18 .none .false [] .false]) (.seq (.reg 19 4 [.mk (.some 38) (.load 3 .true (.t 4)) .none 19 .none .false [] .false, .mk (.some 39) (.call 16 [.t 38]) .none 20
  .none .false [] .false, .mk (.some 10) (.alloc 38 [.slice .none 0 0, .slice .none 0 0, .int .i64 0]) .none 21 .none .false [] .false, .mk .none (.store 3 (.t 10) (.t 39)) .none 22
  .none .false [] .false]) (.seq (.drawd 23 19 [10] [] [] [.none, .none, .some [10], .none, .none, .none, .none, .none, .some [], .none, .some [10], .none, .none, .none, .none,
  .none, .none, .none, .some [10]] [(0, .mk (.some 40) (.bsl 65 4 0 [] []) .none 23 (.some []) .true [] .false), (1, .mk (.some 41) (.faddr 1 (.t 10)) .none 24 (.some []) .true []
  .false), (2, .mk (.some 42) (.load 1 .false (.t 41)) .none 25 (.some []) .true [1] .false), (3, .mk (.some 43) (.mv (.t 2)) .none 26 (.some []) .true [] .false), (4, .mk (.some
  44) (.conv .i64 (.t 43)) .none 27 (.some []) .true [3] .false), (5, .mk (.some 45) (.mv (.t 9)) .none 28 (.some []) .true [] .false), (6, .mk (.some 46) (.bin .rem (.t 44) (.t
  45)) .none 29 (.some []) .true [5, 3, 4] .false), (7, .mk (.some 47) (.slc 4 (.t 42) (.some (.t 46)) .none .none) .none 30 (.some []) .true [4, 3, 5, 6, 1, 2] .false), (8, .mk
  (.some 48) (.app 65 4 32 (.t 40) (.t 47)) .none 31 (.some [23]) .true [2, 1, 6, 5, 3, 4, 7, 0] .false), (9, .mk (.some 49) (.faddr 1 (.t 10)) .none 32 (.some []) .true [] .false),
  (10, .mk (.some 50) (.load 1 .false (.t 49)) .none 33 (.some []) .true [9] .false), (11, .mk (.some 51) (.mv (.t 2)) .none 34 (.some []) .true [] .false), (12, .mk (.some 52)
  (.conv .i64 (.t 51)) .none 35 (.some []) .true [11] .false), (13, .mk (.some 53) (.mv (.t 9)) .none 36 (.some []) .true [] .false), (14, .mk (.some 54) (.bin .rem (.t 52) (.t 53))
  .none 37 (.some []) .true [13, 11, 12] .false), (15, .mk (.some 55) (.slc 4 (.t 50) .none (.some (.t 54)) .none) .none 38 (.some []) .true [12, 11, 13, 14, 9, 10] .false), (16,
  .mk (.some 56) (.app 65 4 32 (.t 48) (.t 55)) .none 39 (.some [23, 31]) .true [10, 9, 14, 13, 11, 12, 15, 0, 7, 4, 3, 5, 6, 1, 2, 8] .false), (17, .mk (.some 57) (.faddr 1 (.t
  10)) .none 40 (.some [39, 31, 23]) .true [16, 15, 14, 13, 12, 11, 10, 9, 8, 7, 6, 5, 4, 3, 2, 1, 0] .false), (18, .mk .none (.store 1 (.t 57) (.t 56)) .none 41 (.some [23, 31,
  39]) .true [0, 1, 2, 3, 4, 5, 6, 7, 8, 9, 10, 11, 12, 13, 14, 15, 16, 17] .false)]) (.seq (.drawd 42 24 [] [] [] [.none, .some [10], .none, .some [10], .none, .none, .none, .none,
  .none, .some [10], .none, .none, .none, .none, .none, .none, .none, .some [10], .none, .none, .none, .none, .none, .none] [(0, .mk (.some 58) (.faddr 1 (.t 10)) .none 42 (.some
  []) .true [] .false), (1, .mk (.some 59) (.load 1 .false (.t 58)) .none 43 (.some []) .true [0] .false), (2, .mk (.some 60) (.faddr 1 (.t 10)) .none 44 (.some []) .true []
  .false), (3, .mk (.some 61) (.load 1 .false (.t 60)) .none 45 (.some []) .true [2] .false), (4, .mk (.some 62) (.mv (.t 3)) .none 46 (.some []) .true [] .false), (5, .mk (.some
  63) (.conv .i64 (.t 62)) .none 47 (.some []) .true [4] .false), (6, .mk (.some 64) (.mv (.t 9)) .none 48 (.some []) .true [] .false), (7, .mk (.some 65) (.bin .rem (.t 63) (.t
  64)) .none 49 (.some []) .true [6, 4, 5] .false), (8, .mk (.some 66) (.faddr 1 (.t 10)) .none 50 (.some []) .true [] .false), (9, .mk (.some 67) (.load 1 .false (.t 66)) .none 51
  (.some []) .true [8] .false), (10, .mk (.some 68) (.mv (.t 3)) .none 52 (.some []) .true [] .false), (11, .mk (.some 69) (.conv .i64 (.t 68)) .none 53 (.some []) .true [10]
  .false), (12, .mk (.some 70) (.mv (.t 9)) .none 54 (.some []) .true [] .false), (13, .mk (.some 71) (.bin .rem (.t 69) (.t 70)) .none 55 (.some []) .true [12, 10, 11] .false),
  (14, .mk (.some 72) (.iaddr 4 (.t 67) (.t 71)) .none 56 (.some []) .true [11, 10, 12, 13, 8, 9] .false), (15, .mk (.some 73) (.load 4 .true (.t 72)) .none 57 (.some []) .true [9,
  8, 13, 12, 10, 11, 14] .false), (16, .mk (.some 74) (.faddr 1 (.t 10)) .none 58 (.some []) .true [] .false), (17, .mk (.some 75) (.load 1 .false (.t 74)) .none 59 (.some []) .true
  [16] .false), (18, .mk (.some 76) (.iaddr 4 (.t 75) (.k (.int .i64 0))) .none 60 (.some []) .true [16, 17] .false), (19, .mk (.some 77) (.load 4 .true (.t 76)) .none 61 (.some [])
  .true [17, 16, 18] .false), (20, .mk (.some 78) (.iaddr 4 (.t 59) (.k (.int .i64 0))) .none 62 (.some []) .true [18, 16, 17, 19, 15, 14, 13, 12, 11, 10, 9, 8, 0, 1] .false), (21,
  .mk .none (.store 4 (.t 78) (.t 73)) .none 63 (.some []) .true [1, 0, 8, 9, 10, 11, 12, 13, 14, 15, 19, 17, 16, 18, 20] .false), (22, .mk (.some 79) (.iaddr 4 (.t 61) (.t 65))
  .none 64 (.some []) .true [21, 20, 19, 18, 17, 16, 15, 14, 13, 12, 11, 10, 9, 8, 1, 0, 5, 4, 6, 7, 2, 3] .false), (23, .mk .none (.store 4 (.t 79) (.t 77)) .none 65 (.some [])
  .true [3, 2, 7, 6, 4, 5, 0, 1, 8, 9, 10, 11, 12, 13, 14, 15, 16, 17, 18, 19, 20, 21, 22] .false)]) (.seq (.draw 66 10 [5, 4] [] [.mk (.some 81) (.load 3 .true (.t 4)) .none 66
  (.some []) .true [] .false, .mk (.some 82) (.call 16 [.t 81]) .none 67 (.some []) .true [] .false, .mk (.some 83) (.load 2 .true (.t 5)) .none 68 (.some []) .true [] .false, .mk
  (.some 84) (.call 17 [.t 83]) .none 69 (.some [67]) .false [] .false, .mk (.some 85) (.call 28 [.t 82, .t 84]) .none 70 (.some [69, 67]) .false [] .false, .mk (.some 80) (.mv (.t
  85)) .none 71 (.some [67, 69, 70]) .true [] .false, .mk (.some 86) (.ext (.t 80) 0) .none 72 (.some [70, 69, 67]) .true [] .false, .mk (.some 87) (.ext (.t 80) 1) .none 73 (.some
  [70, 69, 67]) .true [] .false, .mk (.some 11) (.mv (.t 86)) .none 74 (.some [67, 69, 70]) .true [] .false, .mk (.some 12) (.mv (.t 87)) .none 75 (.some [67, 69, 70]) .true []
  .false]) (.seq (.draw 76 9 [10, 5] [] [.mk (.some 89) (.load 3 .true (.t 10)) .none 76 (.some []) .true [] .false, .mk (.some 90) (.load 2 .true (.t 5)) .none 77 (.some []) .true
  [] .false, .mk (.some 91) (.call 17 [.t 90]) .none 78 (.some []) .true [] .false, .mk (.some 92) (.call 28 [.t 89, .t 91]) .none 79 (.some [78]) .false [] .false, .mk (.some 88)
  (.mv (.t 92)) .none 80 (.some [78, 79]) .true [] .false, .mk (.some 93) (.ext (.t 88) 0) .none 81 (.some [79, 78]) .true [] .false, .mk (.some 94) (.ext (.t 88) 1) .none 82 (.some
  [79, 78]) .true [] .false, .mk (.some 13) (.mv (.t 93)) .none 83 (.some [78, 79]) .true [] .false, .mk (.some 14) (.mv (.t 94)) .none 84 (.some [78, 79]) .true [] .false]) (.seq
  (.draw 85 10 [5, 4] [] [.mk (.some 96) (.load 3 .true (.t 4)) .none 85 (.some []) .true [] .false, .mk (.some 97) (.call 16 [.t 96]) .none 86 (.some []) .true [] .false, .mk
  (.some 98) (.load 2 .true (.t 5)) .none 87 (.some []) .true [] .false, .mk (.some 99) (.call 17 [.t 98]) .none 88 (.some [86]) .false [] .false, .mk (.some 100) (.call 15 [.t 97,
  .t 99]) .none 89 (.some [88, 86]) .false [] .false, .mk (.some 95) (.mv (.t 100)) .none 90 (.some [86, 88, 89]) .true [] .false, .mk (.some 101) (.ext (.t 95) 0) .none 91 (.some
  [89, 88, 86]) .true [] .false, .mk (.some 102) (.ext (.t 95) 1) .none 92 (.some [89, 88, 86]) .true [] .false, .mk (.some 15) (.mv (.t 101)) .none 93 (.some [86, 88, 89]) .true []
  .false, .mk (.some 16) (.mv (.t 102)) .none 94 (.some [86, 88, 89]) .true [] .false]) (.seq (.draw 95 9 [10, 5] [] [.mk (.some 104) (.load 3 .true (.t 10)) .none 95 (.some [])
  .true [] .false, .mk (.some 105) (.load 2 .true (.t 5)) .none 96 (.some []) .true [] .false, .mk (.some 106) (.call 17 [.t 105]) .none 97 (.some []) .true [] .false, .mk (.some
  107) (.call 15 [.t 104, .t 106]) .none 98 (.some [97]) .false [] .false, .mk (.some 103) (.mv (.t 107)) .none 99 (.some [97, 98]) .true [] .false, .mk (.some 108) (.ext (.t 103)
  0) .none 100 (.some [98, 97]) .true [] .false, .mk (.some 109) (.ext (.t 103) 1) .none 101 (.some [98, 97]) .true [] .false, .mk (.some 17) (.mv (.t 108)) .none 102 (.some [97,
  98]) .true [] .false, .mk (.some 18) (.mv (.t 109)) .none 103 (.some [97, 98]) .true [] .false]) (.seq (.draw 104 10 [5, 4] [] [.mk (.some 111) (.load 3 .true (.t 4)) .none 104
  (.some []) .true [] .false, .mk (.some 112) (.call 16 [.t 111]) .none 105 (.some []) .true [] .false, .mk (.some 113) (.load 2 .true (.t 5)) .none 106 (.some []) .true [] .false,
  .mk (.some 114) (.call 17 [.t 113]) .none 107 (.some [105]) .false [] .false, .mk (.some 115) (.call 21 [.t 112, .t 114]) .none 108 (.some [107, 105]) .false [] .false, .mk (.some
  110) (.mv (.t 115)) .none 109 (.some [105, 107, 108]) .true [] .false, .mk (.some 116) (.ext (.t 110) 0) .none 110 (.some [108, 107, 105]) .true [] .false, .mk (.some 117) (.ext
  (.t 110) 1) .none 111 (.some [108, 107, 105]) .true [] .false, .mk (.some 19) (.mv (.t 116)) .none 112 (.some [105, 107, 108]) .true [] .false, .mk (.some 20) (.mv (.t 117)) .none
  113 (.some [105, 107, 108]) .true [] .false]) (.seq (.draw 114 9 [10, 5] [] [.mk (.some 119) (.load 3 .true (.t 10)) .none 114 (.some []) .true [] .false, .mk (.some 120) (.load 2
  .true (.t 5)) .none 115 (.some []) .true [] .false, .mk (.some 121) (.call 17 [.t 120]) .none 116 (.some []) .true [] .false, .mk (.some 122) (.call 21 [.t 119, .t 121]) .none 117
  (.some [116]) .false [] .false, .mk (.some 118) (.mv (.t 122)) .none 118 (.some [116, 117]) .true [] .false, .mk (.some 123) (.ext (.t 118) 0) .none 119 (.some [117, 116]) .true
  [] .false, .mk (.some 124) (.ext (.t 118) 1) .none 120 (.some [117, 116]) .true [] .false, .mk (.some 21) (.mv (.t 123)) .none 121 (.some [116, 117]) .true [] .false, .mk (.some
  22) (.mv (.t 124)) .none 122 (.some [116, 117]) .true [] .false]) (.seq (.seq (.reg 123 41 [.mk (.some 125) (.mv (.t 12)) .none 123 .none .false [] .false, .mk (.some 126) (.bin
  .neq (.t 125) (.k (.int .i64 0))) .none 124 .none .false [] .false, .mk (.some 127) (.mv (.t 126)) .none 125 .none .false [] .false, .mk (.some 128) (.mv (.t 14)) (.some (127,
  .false)) 126 .none .false [] .false, .mk (.some 129) (.bin .neq (.t 128) (.k (.int .i64 0))) (.some (127, .false)) 127 .none .false [] .false, .mk (.some 130) (.pick (.t 127) (.k
  (.bool .true)) (.t 129)) .none 128 .none .false [] .false, .mk (.some 131) (.mv (.t 130)) .none 129 .none .false [] .false, .mk (.some 132) (.mv (.t 16)) (.some (131, .false)) 130
  .none .false [] .false, .mk (.some 133) (.bin .neq (.t 132) (.k (.int .i64 0))) (.some (131, .false)) 131 .none .false [] .false, .mk (.some 134) (.pick (.t 131) (.k (.bool
  .true)) (.t 133)) .none 132 .none .false [] .false, .mk (.some 135) (.mv (.t 134)) .none 133 .none .false [] .false, .mk (.some 136) (.mv (.t 18)) (.some (135, .false)) 134 .none
  .false [] .false, .mk (.some 137) (.bin .neq (.t 136) (.k (.int .i64 0))) (.some (135, .false)) 135 .none .false [] .false, .mk (.some 138) (.pick (.t 135) (.k (.bool .true)) (.t
  137)) .none 136 .none .false [] .false, .mk (.some 139) (.mv (.t 138)) .none 137 .none .false [] .false, .mk (.some 140) (.mv (.t 20)) (.some (139, .false)) 138 .none .false []
  .false, .mk (.some 141) (.bin .neq (.t 140) (.k (.int .i64 0))) (.some (139, .false)) 139 .none .false [] .false, .mk (.some 142) (.pick (.t 139) (.k (.bool .true)) (.t 141))
  .none 140 .none .false [] .false, .mk (.some 143) (.mv (.t 142)) .none 141 .none .false [] .false, .mk (.some 144) (.mv (.t 22)) (.some (143, .false)) 142 .none .false [] .false,
  .mk (.some 145) (.bin .neq (.t 144) (.k (.int .i64 0))) (.some (143, .false)) 143 .none .false [] .false, .mk (.some 146) (.pick (.t 143) (.k (.bool .true)) (.t 145)) .none 144
  .none .false [] .false, .mk (.some 147) (.mv (.t 146)) .none 145 .none .false [] .false, .mk (.some 148) (.mv (.t 11)) (.some (147, .false)) 146 .none .false [] .false, .mk (.some
  149) (.mv (.t 13)) (.some (147, .false)) 147 .none .false [] .false, .mk (.some 150) (.call 29 [.t 148, .t 149]) (.some (147, .false)) 148 .none .false [] .false, .mk (.some 151)
  (.un .not (.t 150)) (.some (147, .false)) 149 .none .false [] .false, .mk (.some 152) (.pick (.t 147) (.k (.bool .true)) (.t 151)) .none 150 .none .false [] .false, .mk (.some
  153) (.mv (.t 152)) .none 151 .none .false [] .false, .mk (.some 154) (.mv (.t 15)) (.some (153, .false)) 152 .none .false [] .false, .mk (.some 155) (.mv (.t 17)) (.some (153,
  .false)) 153 .none .false [] .false, .mk (.some 156) (.call 20 [.t 154, .t 155]) (.some (153, .false)) 154 .none .false [] .false, .mk (.some 157) (.un .not (.t 156)) (.some (153,
  .false)) 155 .none .false [] .false, .mk (.some 158) (.pick (.t 153) (.k (.bool .true)) (.t 157)) .none 156 .none .false [] .false, .mk (.some 159) (.mv (.t 158)) .none 157 .none
  .false [] .false, .mk (.some 160) (.mv (.t 19)) (.some (159, .false)) 158 .none .false [] .false, .mk (.some 161) (.len (.t 160)) (.some (159, .false)) 159 .none .false [] .false,
  .mk (.some 162) (.mv (.t 21)) (.some (159, .false)) 160 .none .false [] .false, .mk (.some 163) (.len (.t 162)) (.some (159, .false)) 161 .none .false [] .false, .mk (.some 164)
  (.bin .neq (.t 161) (.t 163)) (.some (159, .false)) 162 .none .false [] .false, .mk (.some 165) (.pick (.t 159) (.k (.bool .true)) (.t 164)) .none 163 .none .false [] .false])
  (.cond (.t 165) (.seq (.reg 164 1 [.mk (.some 8) (.mv (.k (.bool .false))) .none 164 .none .false [] .false]) .ret) .skip)) (.seq (.seq (.reg 165 1 [.mk (.some 23) (.mv (.k (.int
  .i64 0))) .none 165 .none .false [] .false]) (.block 0 (.loop (.seq (.seq (.reg 166 4 [.mk (.some 166) (.mv (.t 23)) .none 166 .none .false [] .false, .mk (.some 167) (.mv (.t
  19)) .none 167 .none .false [] .false, .mk (.some 168) (.len (.t 167)) .none 168 .none .false [] .false, .mk (.some 169) (.bin .lss (.t 166) (.t 168)) .none 169 .none .false []
  .false]) (.cond (.t 169) .skip (.exit 0))) (.seq (.block 1 (.seq (.draw 170 9 [] [] [.mk (.some 172) (.mv (.t 19)) .none 170 (.some []) .true [] .false, .mk (.some 173) (.mv (.t
  23)) .none 171 (.some []) .true [] .false, .mk (.some 174) (.iaddr 3 (.t 172) (.t 173)) .none 172 (.some []) .true [] .false, .mk (.some 175) (.load 3 .true (.t 174)) .none 173
  (.some []) .true [] .false, .mk (.some 176) (.mv (.t 21)) .none 174 (.some []) .true [] .false, .mk (.some 177) (.mv (.t 23)) .none 175 (.some []) .true [] .false, .mk (.some 178)
  (.iaddr 3 (.t 176) (.t 177)) .none 176 (.some []) .true [] .false, .mk (.some 179) (.load 3 .true (.t 178)) .none 177 (.some []) .true [] .false, .mk (.some 180) (.pur (.bin .neq
  55) [.t 175, .t 179]) .none 178 (.some []) .true [] .false]) (.cond (.t 180) (.seq (.reg 179 1 [.mk (.some 8) (.mv (.k (.bool .false))) .none 179 .none .false [] .false]) .ret)
  .skip))) (.reg 180 3 [.mk (.some 170) (.mv (.t 23)) .none 180 .none .false [] .false, .mk (.some 171) (.bin .add (.t 170) (.k (.int .i64 1))) .none 181 .none .false [] .false, .mk
  (.some 23) (.mv (.t 171)) .none 182 .none .false [] .false])))))) (.seq (.reg 183 2 [.mk (.some 181) (.call 14 []) .none 183 .none .false [] .false, .mk (.some 8) (.mv (.t 181))
  .none 184 .none .false [] .false]) .ret))))))))))))))
def rs7 : List IRes := [.tmp 8]
set_option maxRecDepth 100000 in
theorem comp7 : Comp Try.prog 7 ir7 rs7 182 := ⟨⟨_, _, 185, Try.func7, rfl, by kernel_rfl, by kernel_rfl, rfl⟩⟩
def ir14 : IC :=
  .seq (.reg 0 1 [.mk (.some 0) (.mv (.k (.bool .false))) .none 0 .none .false [] .false]) (.seq (.reg 1 8 [.mk (.some 10) (.call 42 []) .none 1 .none .false [] .false, .mk (.some 11)
  (.call 43 [.k (.int .i64 1970), .k (.slice .none 0 0)]) .none 2 .none .false [] .false, .mk (.some 12) (.call 28 [.t 10, .t 11]) .none 3 .none .false [] .false, .mk (.some 9) (.mv
  (.t 12)) .none 4 .none .false [] .false, .mk (.some 13) (.ext (.t 9) 0) .none 5 .none .false [] .false, .mk (.some 14) (.ext (.t 9) 1) .none 6 .none .false [] .false, .mk (.some
  1) (.mv (.t 13)) .none 7 .none .false [] .false, .mk (.some 2) (.mv (.t 14)) .none 8 .none .false [] .false]) (.seq (.reg 9 9 [.mk (.some 16) (.call 42 []) .none 9 .none .false []
  .false, .mk (.some 17) (.bsl 3 1 1 [.int .i64 0] [(0, .k (.int .i64 1))]) .none 10 .none .false [] .false, .mk (.some 18) (.call 43 [.k (.int .i64 1970), .t 17]) .none 11 .none
  .false [] .false, .mk (.some 19) (.call 15 [.t 16, .t 18]) .none 12 .none .false [] .false, .mk (.some 15) (.mv (.t 19)) .none 13 .none .false [] .false, .mk (.some 20) (.ext (.t
  15) 0) .none 14 .none .false [] .false, .mk (.some 21) (.ext (.t 15) 1) .none 15 .none .false [] .false, .mk (.some 3) (.mv (.t 20)) .none 16 .none .false [] .false, .mk (.some 4)
  (.mv (.t 21)) .none 17 .none .false [] .false]) (.seq (.reg 18 8 [.mk (.some 23) (.call 42 []) .none 18 .none .false [] .false, .mk (.some 24) (.call 43 [.k (.int .i64 1970), .k
  (.slice .none 0 0)]) .none 19 .none .false [] .false, .mk (.some 25) (.call 21 [.t 23, .t 24]) .none 20 .none .false [] .false, .mk (.some 22) (.mv (.t 25)) .none 21 .none .false
  [] .false, .mk (.some 26) (.ext (.t 22) 0) .none 22 .none .false [] .false, .mk (.some 27) (.ext (.t 22) 1) .none 23 .none .false [] .false, .mk (.some 5) (.mv (.t 26)) .none 24
  .none .false [] .false, .mk (.some 6) (.mv (.t 27)) .none 25 .none .false [] .false]) (.seq (.reg 26 8 [.mk (.some 29) (.call 42 []) .none 26 .none .false [] .false, .mk (.some
  30) (.call 43 [.k (.int .i64 1970), .k (.slice .none 0 0)]) .none 27 .none .false [] .false, .mk (.some 31) (.call 37 [.t 29, .t 30]) .none 28 .none .false [] .false, .mk (.some
  28) (.mv (.t 31)) .none 29 .none .false [] .false, .mk (.some 32) (.ext (.t 28) 0) .none 30 .none .false [] .false, .mk (.some 33) (.ext (.t 28) 1) .none 31 .none .false []
  .false, .mk (.some 7) (.mv (.t 32)) .none 32 .none .false [] .false, .mk (.some 8) (.mv (.t 33)) .none 33 .none .false [] .false]) (.seq (.reg 34 52 [.mk (.some 34) (.mv (.t 2))
  .none 34 .none .false [] .false, .mk (.some 35) (.bin .eql (.t 34) (.k (.int .i64 0))) .none 35 .none .false [] .false, .mk (.some 36) (.mv (.t 35)) .none 36 .none .false []
  .false, .mk (.some 37) (.mv (.t 4)) (.some (36, .true)) 37 .none .false [] .false, .mk (.some 38) (.bin .eql (.t 37) (.k (.int .i64 0))) (.some (36, .true)) 38 .none .false []
  .false, .mk (.some 39) (.pick (.t 36) (.t 38) (.k (.bool .false))) .none 39 .none .false [] .false, .mk (.some 40) (.mv (.t 39)) .none 40 .none .false [] .false, .mk (.some 41)
  (.mv (.t 6)) (.some (40, .true)) 41 .none .false [] .false, .mk (.some 42) (.bin .eql (.t 41) (.k (.int .i64 0))) (.some (40, .true)) 42 .none .false [] .false, .mk (.some 43)
  (.pick (.t 40) (.t 42) (.k (.bool .false))) .none 43 .none .false [] .false, .mk (.some 44) (.mv (.t 43)) .none 44 .none .false [] .false, .mk (.some 45) (.mv (.t 8)) (.some (44,
  .true)) 45 .none .false [] .false, .mk (.some 46) (.bin .eql (.t 45) (.k (.int .i64 0))) (.some (44, .true)) 46 .none .false [] .false, .mk (.some 47) (.pick (.t 44) (.t 46) (.k
  (.bool .false))) .none 47 .none .false [] .false, .mk (.some 48) (.mv (.t 47)) .none 48 .none .false [] .false, .mk (.some 49) (.mv (.t 1)) (.some (48, .true)) 49 .none .false []
  .false, .mk (.some 50) (.bld [(0, 1), (1, 1)] [.string (ByteArray.mk (Array.mk [])), .int .i64 0] [(0, .k (.string (ByteArray.mk (Array.mk [119, 101])))), (1, .k (.int .i64 1))])
  (.some (48, .true)) 50 .none .false [] .false, .mk (.some 51) (.bld [(0, 1), (1, 1)] [.string (ByteArray.mk (Array.mk [])), .int .i64 0] [(0, .k (.string (ByteArray.mk (Array.mk
  [109, 101, 116])))), (1, .k (.int .i64 1))]) (.some (48, .true)) 51 .none .false [] .false, .mk (.some 52) (.bld [(0, 1), (1, 1)] [.string (ByteArray.mk (Array.mk [])), .int .i64
  0] [(0, .k (.string (ByteArray.mk (Array.mk [116, 104, 101])))), (1, .k (.int .i64 1))]) (.some (48, .true)) 52 .none .false [] .false, .mk (.some 53) (.bld [(0, 1), (1, 1)]
  [.string (ByteArray.mk (Array.mk [])), .int .i64 0] [(1, .k (.int .i64 2))]) (.some (48, .true)) 53 .none .false [] .false, .mk (.some 54) (.bld [(0, 1), (1, 1)] [.string
  (ByteArray.mk (Array.mk [])), .int .i64 0] [(0, .k (.string (ByteArray.mk (Array.mk [116, 111, 100, 97, 121])))), (1, .k (.int .i64 2))]) (.some (48, .true)) 54 .none .false []
  .false, .mk (.some 55) (.bsl 79 2 5 [.string (ByteArray.mk (Array.mk [])), .int .i64 0, .string (ByteArray.mk (Array.mk [])), .int .i64 0, .string (ByteArray.mk (Array.mk [])),
  .int .i64 0, .string (ByteArray.mk (Array.mk [])), .int .i64 0, .string (ByteArray.mk (Array.mk [])), .int .i64 0] [(0, .t 50), (1, .t 51), (2, .t 52), (3, .t 53), (4, .t 54)])
  (.some (48, .true)) 55 .none .false [] .false, .mk (.some 56) (.call 29 [.t 49, .t 55]) (.some (48, .true)) 56 .none .false [] .false, .mk (.some 57) (.pick (.t 48) (.t 56) (.k
  (.bool .false))) .none 57 .none .false [] .false, .mk (.some 58) (.mv (.t 57)) .none 58 .none .false [] .false, .mk (.some 59) (.mv (.t 3)) (.some (58, .true)) 59 .none .false []
  .false, .mk (.some 60) (.bsl 3 1 1 [.int .i64 0] [(0, .k (.int .i64 2))]) (.some (58, .true)) 60 .none .false [] .false, .mk (.some 61) (.bld [(0, 1), (1, 1)] [.int .i64 0, .slice
  .none 0 0] [(0, .k (.int .i64 3)), (1, .t 60)]) (.some (58, .true)) 61 .none .false [] .false, .mk (.some 62) (.bsl 3 1 1 [.int .i64 0] [(0, .k (.int .i64 2))]) (.some (58,
  .true)) 62 .none .false [] .false, .mk (.some 63) (.bld [(0, 1), (1, 1)] [.int .i64 0, .slice .none 0 0] [(0, .k (.int .i64 5)), (1, .t 62)]) (.some (58, .true)) 63 .none .false
  [] .false, .mk (.some 64) (.bsl 3 1 1 [.int .i64 0] [(0, .k (.int .i64 2))]) (.some (58, .true)) 64 .none .false [] .false, .mk (.some 65) (.bld [(0, 1), (1, 1)] [.int .i64 0,
  .slice .none 0 0] [(0, .k (.int .i64 8)), (1, .t 64)]) (.some (58, .true)) 65 .none .false [] .false, .mk (.some 66) (.bsl 47 2 3 [.int .i64 0, .slice .none 0 0, .int .i64 0,
  .slice .none 0 0, .int .i64 0, .slice .none 0 0] [(0, .t 61), (1, .t 63), (2, .t 65)]) (.some (58, .true)) 66 .none .false [] .false, .mk (.some 67) (.call 20 [.t 59, .t 66])
  (.some (58, .true)) 67 .none .false [] .false, .mk (.some 68) (.pick (.t 58) (.t 67) (.k (.bool .false))) .none 68 .none .false [] .false, .mk (.some 69) (.mv (.t 68)) .none 69
  .none .false [] .false, .mk (.some 70) (.mv (.t 5)) (.some (69, .true)) 70 .none .false [] .false, .mk (.some 71) (.len (.t 70)) (.some (69, .true)) 71 .none .false [] .false, .mk
  (.some 72) (.bin .eql (.t 71) (.k (.int .i64 1))) (.some (69, .true)) 72 .none .false [] .false, .mk (.some 73) (.pick (.t 69) (.t 72) (.k (.bool .false))) .none 73 .none .false
  [] .false, .mk (.some 74) (.mv (.t 73)) .none 74 .none .false [] .false, .mk (.some 75) (.mv (.t 5)) (.some (74, .true)) 75 .none .false [] .false, .mk (.some 76) (.iaddr 3 (.t
  75) (.k (.int .i64 0))) (.some (74, .true)) 76 .none .false [] .false, .mk (.some 77) (.load 3 .true (.t 76)) (.some (74, .true)) 77 .none .false [] .false, .mk (.some 78) (.bld
  [(0, 1), (1, 1), (2, 1)] [.int .i64 0, .int .i64 0, .int .i64 0] [(0, .k (.int .i64 3)), (1, .k (.int .i64 6)), (2, .k (.int .i64 1990))]) (.some (74, .true)) 78 .none .false []
  .false, .mk (.some 79) (.pur (.bin .eql 55) [.t 77, .t 78]) (.some (74, .true)) 79 .none .false [] .false, .mk (.some 80) (.pick (.t 74) (.t 79) (.k (.bool .false))) .none 80
  .none .false [] .false, .mk (.some 81) (.mv (.t 80)) .none 81 .none .false [] .false, .mk (.some 82) (.mv (.t 7)) (.some (81, .true)) 82 .none .false [] .false, .mk (.some 83)
  (.bin .eql (.t 82) (.k (.int .i64 2))) (.some (81, .true)) 83 .none .false [] .false, .mk (.some 84) (.pick (.t 81) (.t 83) (.k (.bool .false))) .none 84 .none .false [] .false,
  .mk (.some 0) (.mv (.t 84)) .none 85 .none .false [] .false]) .ret)))))
def rs14 : List IRes := [.tmp 0]
set_option maxRecDepth 100000 in
theorem comp14 : Comp Try.prog 14 ir14 rs14 85 := ⟨⟨_, _, 86, Try.func14, rfl, by kernel_rfl, by kernel_rfl, rfl⟩⟩
theorem body14 : HasBody Try.prog 14 := hasBody_of (by kernel_rfl)

def ir42 : IC :=
  .seq (.reg 0 1 [.mk (.some 0) (.alloc 38 [.slice .none 0 0, .slice .none 0 0, .int .i64 0]) .none 0 .none .false [] .false]) (.seq (.reg 1 17 [.mk (.some 1) (.bld [(0, 1), (1, 1)]
  [.string (ByteArray.mk (Array.mk [])), .slice .none 0 0] [(0, .k (.string (ByteArray.mk (Array.mk [119, 101]))))]) .none 1 .none .false [] .false, .mk (.some 2) (.bld [(0, 1), (1,
  1)] [.string (ByteArray.mk (Array.mk [])), .slice .none 0 0] [(0, .k (.string (ByteArray.mk (Array.mk [109, 101, 116]))))]) .none 2 .none .false [] .false, .mk (.some 3) (.bld
  [(0, 1), (1, 1)] [.string (ByteArray.mk (Array.mk [])), .slice .none 0 0] [(0, .k (.string (ByteArray.mk (Array.mk [116, 104, 101]))))]) .none 3 .none .false [] .false, .mk (.some
  4) (.bsl 3 1 2 [.int .i64 0, .int .i64 0] [(0, .k (.int .i64 3)), (1, .k (.int .i64 5))]) .none 4 .none .false [] .false, .mk (.some 5) (.bld [(0, 1), (1, 1)] [.string
  (ByteArray.mk (Array.mk [])), .slice .none 0 0] [(0, .k (.string (ByteArray.mk (Array.mk [101, 110, 118, 111, 121])))), (1, .t 4)]) .none 5 .none .false [] .false, .mk (.some 6)
  (.bld [(0, 1), (1, 1)] [.string (ByteArray.mk (Array.mk [])), .slice .none 0 0] [(0, .k (.string (ByteArray.mk (Array.mk [105, 110]))))]) .none 6 .none .false [] .false, .mk
  (.some 7) (.bsl 3 1 1 [.int .i64 0] [(0, .k (.int .i64 5))]) .none 7 .none .false [] .false, .mk (.some 8) (.bld [(0, 1), (1, 1)] [.string (ByteArray.mk (Array.mk [])), .slice
  .none 0 0] [(0, .k (.string (ByteArray.mk (Array.mk [66, 101, 114, 110])))), (1, .t 7)]) .none 8 .none .false [] .false, .mk (.some 9) (.bsl 3 1 1 [.int .i64 0] [(0, .k (.int .i64
  8))]) .none 9 .none .false [] .false, .mk (.some 10) (.bld [(0, 1), (1, 1)] [.string (ByteArray.mk (Array.mk [])), .slice .none 0 0] [(0, .k (.string (ByteArray.mk (Array.mk [116,
  111, 100, 97, 121])))), (1, .t 9)]) .none 10 .none .false [] .false, .mk (.some 11) (.bsl 104 2 7 [.string (ByteArray.mk (Array.mk [])), .slice .none 0 0, .string (ByteArray.mk
  (Array.mk [])), .slice .none 0 0, .string (ByteArray.mk (Array.mk [])), .slice .none 0 0, .string (ByteArray.mk (Array.mk [])), .slice .none 0 0, .string (ByteArray.mk (Array.mk
  [])), .slice .none 0 0, .string (ByteArray.mk (Array.mk [])), .slice .none 0 0, .string (ByteArray.mk (Array.mk [])), .slice .none 0 0] [(0, .t 1), (1, .t 2), (2, .t 3), (3, .t
  5), (4, .t 6), (5, .t 8), (6, .t 10)]) .none 11 .none .false [] .false, .mk (.some 12) (.bld [(0, 1), (1, 1), (2, 1), (3, 1)] [.int .i64 0, .int .i64 0, .int .i64 0, .int .i64 0]
  [(0, .k (.int .i64 3)), (1, .k (.int .i64 4)), (2, .k (.int .i64 1)), (3, .k (.int .i64 1990))]) .none 12 .none .false [] .false, .mk (.some 13) (.bld [(0, 1), (1, 1), (2, 1), (3,
  1)] [.int .i64 0, .int .i64 0, .int .i64 0, .int .i64 0] [(0, .k (.int .i64 4)), (1, .k (.int .i64 6)), (2, .k (.int .i64 2)), (3, .k (.int .i64 1980))]) .none 13 .none .false []
  .false, .mk (.some 14) (.bld [(0, 1), (1, 1), (2, 1), (3, 1)] [.int .i64 0, .int .i64 0, .int .i64 0, .int .i64 0] [(0, .k (.int .i64 5)), (1, .k (.int .i64 6)), (2, .k (.int .i64
  1)), (3, .k (.int .i64 1975))]) .none 14 .none .false [] .false, .mk (.some 15) (.bsl 65 4 3 [.int .i64 0, .int .i64 0, .int .i64 0, .int .i64 0, .int .i64 0, .int .i64 0, .int
  .i64 0, .int .i64 0, .int .i64 0, .int .i64 0, .int .i64 0, .int .i64 0] [(0, .t 12), (1, .t 13), (2, .t 14)]) .none 15 .none .false [] .false, .mk (.some 16) (.bld [(0, 1), (1,
  1), (2, 1)] [.slice .none 0 0, .slice .none 0 0, .int .i64 0] [(2, .k (.int .i64 3)), (0, .t 11), (1, .t 15)]) .none 16 .none .false [] .false, .mk .none (.store 3 (.t 0) (.t 16))
  .none 17 .none .false [] .false]) .ret)
def rs42 : List IRes := [.cell 0 3 .true]
set_option maxRecDepth 100000 in
theorem comp42 : Comp Try.prog 42 ir42 rs42 17 := ⟨⟨_, _, 18, Try.func42, rfl, by kernel_rfl, by kernel_rfl, rfl⟩⟩
theorem body42 : HasBody Try.prog 42 := hasBody_of (by kernel_rfl)

def ir43 : IC :=
  .seq (.reg 0 1 [.mk (.some 4) (.alloc 40 [.int .i64 0, .slice .none 0 0]) .none 0 .none .false [] .false]) (.seq (.reg 1 4 [.mk (.some 5) (.mv (.t 0)) .none 1 .none .false []
  .false, .mk (.some 6) (.mv (.t 1)) .none 2 .none .false [] .false, .mk (.some 7) (.bld [(0, 1), (1, 1)] [.int .i64 0, .slice .none 0 0] [(0, .t 5), (1, .t 6)]) .none 3 .none
  .false [] .false, .mk .none (.store 2 (.t 4) (.t 7)) .none 4 .none .false [] .false]) .ret)
def rs43 : List IRes := [.cell 4 2 .true]
set_option maxRecDepth 100000 in
theorem comp43 : Comp Try.prog 43 ir43 rs43 8 := ⟨⟨_, _, 5, Try.func43, rfl, by kernel_rfl, by kernel_rfl, rfl⟩⟩
theorem body43 : HasBody Try.prog 43 := hasBody_of (by kernel_rfl)

end Go.Proofs.Ytpcpjmplgladmaa

namespace Go.Proofs.Ytpcpjmplgladmaa
open Go.Pal
def ir57 : IC :=
  .seq (.reg 0 2 [.mk (.some 1) (.box 104 (.t 0)) .none 0 .none .false [] .false, .mk (.some 2) (.mv (.k (.bool .false))) .none 1 .none .false [] .false]) (.seq (.reg 2 5 [.mk (.some
  3) (.faddr 1 (.t 1)) .none 2 .none .false [] .false, .mk (.some 4) (.load 1 .false (.t 3)) .none 3 .none .false [] .false, .mk (.some 5) (.len (.t 4)) .none 4 .none .false []
  .false, .mk (.some 6) (.bin .leq (.t 5) (.k (.int .i64 5))) .none 5 .none .false [] .false, .mk (.some 2) (.mv (.t 6)) .none 6 .none .false [] .false]) .ret)
def rs57 : List IRes := [.tmp 2]
set_option maxRecDepth 100000 in
theorem comp57 : Comp Try.prog 57 ir57 rs57 7 := ⟨⟨_, _, 7, Try.func57, rfl, by kernel_rfl, by kernel_rfl, rfl⟩⟩
theorem body57 : HasBody Try.prog 57 := hasBody_of (by kernel_rfl)

def ir79 : IC :=
  .seq (.reg 0 1 [.mk (.some 2) (.mv (.k (.bool .false))) .none 0 .none .false [] .false]) (.seq (.reg 1 7 [.mk (.some 3) (.mv (.t 0)) .none 1 .none .false [] .false, .mk (.some 4)
  (.bin .leq (.k (.int .u8 33)) (.t 3)) .none 2 .none .false [] .false, .mk (.some 5) (.mv (.t 4)) .none 3 .none .false [] .false, .mk (.some 6) (.mv (.t 0)) (.some (5, .true)) 4
  .none .false [] .false, .mk (.some 7) (.bin .leq (.t 6) (.k (.int .u8 126))) (.some (5, .true)) 5 .none .false [] .false, .mk (.some 8) (.pick (.t 5) (.t 7) (.k (.bool .false)))
  .none 6 .none .false [] .false, .mk (.some 2) (.mv (.t 8)) .none 7 .none .false [] .false]) .ret)
def rs79 : List IRes := [.tmp 2]
set_option maxRecDepth 100000 in
theorem comp79 : Comp Try.prog 79 ir79 rs79 9 := ⟨⟨_, _, 8, Try.func79, rfl, by kernel_rfl, by kernel_rfl, rfl⟩⟩
theorem body79 : HasBody Try.prog 79 := hasBody_of (by kernel_rfl)

def ir78 : IC :=
  .seq (.reg 0 2 [.mk (.some 3) (.box 130 (.t 1)) .none 0 .none .false [] .false, .mk (.some 4) (.mv (.k (.bool .false))) .none 1 .none .false [] .false]) (.seq (.reg 2 5 [.mk (.some
  5) (.mv (.t 0)) .none 2 .none .false [] .false, .mk (.some 6) (.mkf 87 [] [.t 3]) .none 3 .none .false [] .false, .mk (.some 7) (.call 86 [.t 5, .t 6]) .none 4 .none .false []
  .false, .mk (.some 8) (.un .not (.t 7)) .none 5 .none .false [] .false, .mk (.some 4) (.mv (.t 8)) .none 6 .none .false [] .false]) .ret)
def rs78 : List IRes := [.tmp 4]
set_option maxRecDepth 100000 in
theorem comp78 : Comp Try.prog 78 ir78 rs78 9 := ⟨⟨_, _, 7, Try.func78, rfl, by kernel_rfl, by kernel_rfl, rfl⟩⟩
theorem body78 : HasBody Try.prog 78 := hasBody_of (by kernel_rfl)

def ir77 : IC :=
  .seq (.reg 1 2 [.mk (.some 2) (.box 104 (.t 0)) .none 1 .none .false [] .false, .mk (.some 3) (.mv (.k (.bool .false))) .none 2 .none .false [] .false]) (.seq (.reg 3 5 [.mk (.some
  4) (.load 1 .false (.t 1)) .none 3 .none .false [] .false, .mk (.some 5) (.load 2 .true (.t 2)) .none 4 .none .false [] .false, .mk (.some 6) (.callv (.t 4) [.t 5]) .none 5 .none
  .false [] .false, .mk (.some 7) (.un .not (.t 6)) .none 6 .none .false [] .false, .mk (.some 3) (.mv (.t 7)) .none 7 .none .false [] .false]) .ret)
def rs77 : List IRes := [.tmp 3]
set_option maxRecDepth 100000 in
theorem comp77 : CompAt Try.prog 77 1 ir77 rs77 8 := ⟨⟨_, _, 8, Try.func77, rfl, by kernel_rfl, by kernel_rfl, rfl⟩⟩
theorem body77 : HasBody Try.prog 77 := hasBody_of (by kernel_rfl)

def ir76 : IC :=
  .seq (.reg 1 1 [.mk (.some 4) (.mv (.k (.bool .false))) .none 1 .none .false [] .false]) (.seq (.reg 2 5 [.mk (.some 5) (.mv (.t 0)) .none 2 .none .false [] .false, .mk (.some 6)
  (.mv (.t 1)) .none 3 .none .false [] .false, .mk (.some 7) (.call 85 [.t 5, .t 6]) .none 4 .none .false [] .false, .mk (.some 8) (.bin .geq (.t 7) (.k (.int .i64 0))) .none 5
  .none .false [] .false, .mk (.some 4) (.mv (.t 8)) .none 6 .none .false [] .false]) .ret)
def rs76 : List IRes := [.tmp 4]
set_option maxRecDepth 100000 in
theorem comp76 : CompAt Try.prog 76 1 ir76 rs76 9 := ⟨⟨_, _, 7, Try.func76, rfl, by kernel_rfl, by kernel_rfl, rfl⟩⟩
theorem body76 : HasBody Try.prog 76 := hasBody_of (by kernel_rfl)

def ir85 : IC :=
  .seq (.reg 1 1 [.mk (.some 4) (.mv (.k (.int .i64 0))) .none 1 .none .false [] .false]) (.seq (.seq (.reg 2 3 [.mk (.some 6) (.mv (.t 0)) .none 2 .none .false [] .false, .mk (.some
  7) (.len (.t 6)) .none 3 .none .false [] .false, .mk (.some 8) (.mv (.k (.int .i64 0))) .none 4 .none .false [] .false]) (.block 0 (.loop (.seq (.reg 5 1 [.mk (.some 9) (.bin .lss
  (.t 8) (.t 7)) .none 5 .none .false [] .false]) (.seq (.cond (.t 9) .skip (.exit 0)) (.seq (.block 1 (.seq (.reg 6 2 [.mk (.some 10) (.mv (.t 8)) .none 6 .none .false [] .false,
  .mk (.some 5) (.mv (.t 10)) .none 7 .none .false [] .false]) (.seq (.reg 8 6 [.mk (.some 11) (.mv (.t 1)) .none 8 .none .false [] .false, .mk (.some 12) (.mv (.t 0)) .none 9 .none
  .false [] .false, .mk (.some 13) (.mv (.t 5)) .none 10 .none .false [] .false, .mk (.some 14) (.iaddr 2 (.t 12) (.t 13)) .none 11 .none .false [] .false, .mk (.some 15) (.load 2
  .true (.t 14)) .none 12 .none .false [] .false, .mk (.some 16) (.callv (.t 11) [.t 15]) .none 13 .none .false [] .false]) (.cond (.t 16) (.seq (.reg 14 2 [.mk (.some 17) (.mv (.t
  5)) .none 14 .none .false [] .false, .mk (.some 4) (.mv (.t 17)) .none 15 .none .false [] .false]) .ret) .skip)))) (.reg 16 2 [.mk (.some 18) (.bin .add (.t 8) (.k (.int .i64 1)))
  .none 16 .none .false [] .false, .mk (.some 8) (.mv (.t 18)) .none 17 .none .false [] .false]))))))) (.seq (.reg 18 1 [.mk (.some 4) (.mv (.k (.int .i64 (-1)))) .none 18 .none
  .false [] .false]) .ret))
def rs85 : List IRes := [.tmp 4]
set_option maxRecDepth 100000 in
theorem comp85 : CompAt Try.prog 85 1 ir85 rs85 19 := ⟨⟨_, _, 19, Try.func85, rfl, by kernel_rfl, by kernel_rfl, rfl⟩⟩
theorem body85 : HasBody Try.prog 85 := hasBody_of (by kernel_rfl)

def ir81 : IC :=
  .seq (.reg 2 2 [.mk (.some 2) (.box 65 (.t 0)) .none 2 .none .false [] .false, .mk (.some 3) (.mv (.k (.bool .false))) .none 3 .none .false [] .false]) (.seq (.reg 4 5 [.mk (.some
  4) (.load 1 .false (.t 1)) .none 4 .none .false [] .false, .mk (.some 5) (.load 4 .true (.t 2)) .none 5 .none .false [] .false, .mk (.some 6) (.callv (.t 4) [.t 5]) .none 6 .none
  .false [] .false, .mk (.some 7) (.un .not (.t 6)) .none 7 .none .false [] .false, .mk (.some 3) (.mv (.t 7)) .none 8 .none .false [] .false]) .ret)
def rs81 : List IRes := [.tmp 3]
set_option maxRecDepth 100000 in
theorem comp81 : CompAt Try.prog 81 2 ir81 rs81 8 := ⟨⟨_, _, 9, Try.func81, rfl, by kernel_rfl, by kernel_rfl, rfl⟩⟩
theorem body81 : HasBody Try.prog 81 := hasBody_of (by kernel_rfl)

def ir80 : IC :=
  .seq (.reg 2 1 [.mk (.some 4) (.mv (.k (.bool .false))) .none 2 .none .false [] .false]) (.seq (.reg 3 5 [.mk (.some 5) (.mv (.t 0)) .none 3 .none .false [] .false, .mk (.some 6)
  (.mv (.t 1)) .none 4 .none .false [] .false, .mk (.some 7) (.call 88 [.t 5, .t 6]) .none 5 .none .false [] .false, .mk (.some 8) (.bin .geq (.t 7) (.k (.int .i64 0))) .none 6
  .none .false [] .false, .mk (.some 4) (.mv (.t 8)) .none 7 .none .false [] .false]) .ret)
def rs80 : List IRes := [.tmp 4]
set_option maxRecDepth 100000 in
theorem comp80 : CompAt Try.prog 80 2 ir80 rs80 9 := ⟨⟨_, _, 8, Try.func80, rfl, by kernel_rfl, by kernel_rfl, rfl⟩⟩
theorem body80 : HasBody Try.prog 80 := hasBody_of (by kernel_rfl)

def ir88 : IC :=
  .seq (.reg 2 1 [.mk (.some 4) (.mv (.k (.int .i64 0))) .none 2 .none .false [] .false]) (.seq (.seq (.reg 3 3 [.mk (.some 6) (.mv (.t 0)) .none 3 .none .false [] .false, .mk (.some
  7) (.len (.t 6)) .none 4 .none .false [] .false, .mk (.some 8) (.mv (.k (.int .i64 0))) .none 5 .none .false [] .false]) (.block 0 (.loop (.seq (.reg 6 1 [.mk (.some 9) (.bin .lss
  (.t 8) (.t 7)) .none 6 .none .false [] .false]) (.seq (.cond (.t 9) .skip (.exit 0)) (.seq (.block 1 (.seq (.reg 7 2 [.mk (.some 10) (.mv (.t 8)) .none 7 .none .false [] .false,
  .mk (.some 5) (.mv (.t 10)) .none 8 .none .false [] .false]) (.seq (.reg 9 6 [.mk (.some 11) (.mv (.t 1)) .none 9 .none .false [] .false, .mk (.some 12) (.mv (.t 0)) .none 10
  .none .false [] .false, .mk (.some 13) (.mv (.t 5)) .none 11 .none .false [] .false, .mk (.some 14) (.iaddr 4 (.t 12) (.t 13)) .none 12 .none .false [] .false, .mk (.some 15)
  (.load 4 .true (.t 14)) .none 13 .none .false [] .false, .mk (.some 16) (.callv (.t 11) [.t 15]) .none 14 .none .false [] .false]) (.cond (.t 16) (.seq (.reg 15 2 [.mk (.some 17)
  (.mv (.t 5)) .none 15 .none .false [] .false, .mk (.some 4) (.mv (.t 17)) .none 16 .none .false [] .false]) .ret) .skip)))) (.reg 17 2 [.mk (.some 18) (.bin .add (.t 8) (.k (.int
  .i64 1))) .none 17 .none .false [] .false, .mk (.some 8) (.mv (.t 18)) .none 18 .none .false [] .false]))))))) (.seq (.reg 19 1 [.mk (.some 4) (.mv (.k (.int .i64 (-1)))) .none 19
  .none .false [] .false]) .ret))
def rs88 : List IRes := [.tmp 4]
set_option maxRecDepth 100000 in
theorem comp88 : CompAt Try.prog 88 2 ir88 rs88 19 := ⟨⟨_, _, 20, Try.func88, rfl, by kernel_rfl, by kernel_rfl, rfl⟩⟩
theorem body88 : HasBody Try.prog 88 := hasBody_of (by kernel_rfl)

def ir87 : IC :=
  .seq (.reg 1 1 [.mk (.some 3) (.mv (.k (.bool .false))) .none 1 .none .false [] .false]) (.seq (.reg 2 5 [.mk (.some 4) (.load 1 .false (.t 1)) .none 2 .none .false [] .false, .mk
  (.some 5) (.mv (.t 0)) .none 3 .none .false [] .false, .mk (.some 6) (.callv (.t 4) [.t 5]) .none 4 .none .false [] .false, .mk (.some 7) (.un .not (.t 6)) .none 5 .none .false []
  .false, .mk (.some 3) (.mv (.t 7)) .none 6 .none .false [] .false]) .ret)
def rs87 : List IRes := [.tmp 3]
set_option maxRecDepth 100000 in
theorem comp87 : CompAt Try.prog 87 1 ir87 rs87 8 := ⟨⟨_, _, 7, Try.func87, rfl, by kernel_rfl, by kernel_rfl, rfl⟩⟩
theorem body87 : HasBody Try.prog 87 := hasBody_of (by kernel_rfl)

def ir86 : IC :=
  .seq (.reg 1 1 [.mk (.some 4) (.mv (.k (.bool .false))) .none 1 .none .false [] .false]) (.seq (.reg 2 5 [.mk (.some 5) (.mv (.t 0)) .none 2 .none .false [] .false, .mk (.some 6)
  (.mv (.t 1)) .none 3 .none .false [] .false, .mk (.some 7) (.call 100 [.t 5, .t 6]) .none 4 .none .false [] .false, .mk (.some 8) (.bin .geq (.t 7) (.k (.int .i64 0))) .none 5
  .none .false [] .false, .mk (.some 4) (.mv (.t 8)) .none 6 .none .false [] .false]) .ret)
def rs86 : List IRes := [.tmp 4]
set_option maxRecDepth 100000 in
theorem comp86 : CompAt Try.prog 86 1 ir86 rs86 9 := ⟨⟨_, _, 7, Try.func86, rfl, by kernel_rfl, by kernel_rfl, rfl⟩⟩
theorem body86 : HasBody Try.prog 86 := hasBody_of (by kernel_rfl)

def ir100 : IC :=
  .seq (.reg 1 1 [.mk (.some 4) (.mv (.k (.int .i64 0))) .none 1 .none .false [] .false]) (.seq (.seq (.reg 2 3 [.mk (.some 6) (.mv (.t 0)) .none 2 .none .false [] .false, .mk (.some
  7) (.len (.t 6)) .none 3 .none .false [] .false, .mk (.some 8) (.mv (.k (.int .i64 0))) .none 4 .none .false [] .false]) (.block 0 (.loop (.seq (.reg 5 1 [.mk (.some 9) (.bin .lss
  (.t 8) (.t 7)) .none 5 .none .false [] .false]) (.seq (.cond (.t 9) .skip (.exit 0)) (.seq (.block 1 (.seq (.reg 6 2 [.mk (.some 10) (.mv (.t 8)) .none 6 .none .false [] .false,
  .mk (.some 5) (.mv (.t 10)) .none 7 .none .false [] .false]) (.seq (.reg 8 6 [.mk (.some 11) (.mv (.t 1)) .none 8 .none .false [] .false, .mk (.some 12) (.mv (.t 0)) .none 9 .none
  .false [] .false, .mk (.some 13) (.mv (.t 5)) .none 10 .none .false [] .false, .mk (.some 14) (.iaddr 1 (.t 12) (.t 13)) .none 11 .none .false [] .false, .mk (.some 15) (.load 1
  .false (.t 14)) .none 12 .none .false [] .false, .mk (.some 16) (.callv (.t 11) [.t 15]) .none 13 .none .false [] .false]) (.cond (.t 16) (.seq (.reg 14 2 [.mk (.some 17) (.mv (.t
  5)) .none 14 .none .false [] .false, .mk (.some 4) (.mv (.t 17)) .none 15 .none .false [] .false]) .ret) .skip)))) (.reg 16 2 [.mk (.some 18) (.bin .add (.t 8) (.k (.int .i64 1)))
  .none 16 .none .false [] .false, .mk (.some 8) (.mv (.t 18)) .none 17 .none .false [] .false]))))))) (.seq (.reg 18 1 [.mk (.some 4) (.mv (.k (.int .i64 (-1)))) .none 18 .none
  .false [] .false]) .ret))
def rs100 : List IRes := [.tmp 4]
set_option maxRecDepth 100000 in
theorem comp100 : CompAt Try.prog 100 1 ir100 rs100 19 := ⟨⟨_, _, 19, Try.func100, rfl, by kernel_rfl, by kernel_rfl, rfl⟩⟩
theorem body100 : HasBody Try.prog 100 := hasBody_of (by kernel_rfl)

def ir54 : IC :=
  .seq (.reg 1 2 [.mk (.some 2) (.box 65 (.t 0)) .none 1 .none .false [] .false, .mk (.some 3) (.mv (.k (.bool .false))) .none 2 .none .false [] .false]) (.seq (.reg 3 29 [.mk (.some
  4) (.faddr 0 (.t 2)) .none 3 .none .false [] .false, .mk (.some 5) (.load 1 .false (.t 4)) .none 4 .none .false [] .false, .mk (.some 6) (.bin .leq (.k (.int .i64 0)) (.t 5))
  .none 5 .none .false [] .false, .mk (.some 7) (.mv (.t 6)) .none 6 .none .false [] .false, .mk (.some 8) (.faddr 0 (.t 2)) (.some (7, .true)) 7 .none .false [] .false, .mk (.some
  9) (.load 1 .false (.t 8)) (.some (7, .true)) 8 .none .false [] .false, .mk (.some 10) (.faddr 1 (.t 2)) (.some (7, .true)) 9 .none .false [] .false, .mk (.some 11) (.load 1
  .false (.t 10)) (.some (7, .true)) 10 .none .false [] .false, .mk (.some 12) (.bin .lss (.t 9) (.t 11)) (.some (7, .true)) 11 .none .false [] .false, .mk (.some 13) (.pick (.t 7)
  (.t 12) (.k (.bool .false))) .none 12 .none .false [] .false, .mk (.some 14) (.mv (.t 13)) .none 13 .none .false [] .false, .mk (.some 15) (.faddr 1 (.t 2)) (.some (14, .true)) 14
  .none .false [] .false, .mk (.some 16) (.load 1 .false (.t 15)) (.some (14, .true)) 15 .none .false [] .false, .mk (.some 17) (.faddr 0 (.t 1)) (.some (14, .true)) 16 .none .false
  [] .false, .mk (.some 18) (.load 1 .false (.t 17)) (.some (14, .true)) 17 .none .false [] .false, .mk (.some 19) (.len (.t 18)) (.some (14, .true)) 18 .none .false [] .false, .mk
  (.some 20) (.bin .leq (.t 16) (.t 19)) (.some (14, .true)) 19 .none .false [] .false, .mk (.some 21) (.pick (.t 14) (.t 20) (.k (.bool .false))) .none 20 .none .false [] .false,
  .mk (.some 22) (.mv (.t 21)) .none 21 .none .false [] .false, .mk (.some 23) (.faddr 2 (.t 2)) (.some (22, .true)) 22 .none .false [] .false, .mk (.some 24) (.load 1 .false (.t
  23)) (.some (22, .true)) 23 .none .false [] .false, .mk (.some 25) (.call 51 [.t 24, .k (.int .i64 0), .k (.int .i64 7)]) (.some (22, .true)) 24 .none .false [] .false, .mk (.some
  26) (.pick (.t 22) (.t 25) (.k (.bool .false))) .none 25 .none .false [] .false, .mk (.some 27) (.mv (.t 26)) .none 26 .none .false [] .false, .mk (.some 28) (.faddr 3 (.t 2))
  (.some (27, .true)) 27 .none .false [] .false, .mk (.some 29) (.load 1 .false (.t 28)) (.some (27, .true)) 28 .none .false [] .false, .mk (.some 30) (.call 55 [.t 29]) (.some (27,
  .true)) 29 .none .false [] .false, .mk (.some 31) (.pick (.t 27) (.t 30) (.k (.bool .false))) .none 30 .none .false [] .false, .mk (.some 3) (.mv (.t 31)) .none 31 .none .false []
  .false]) .ret)
def rs54 : List IRes := [.tmp 3]
set_option maxRecDepth 100000 in
theorem comp54 : CompAt Try.prog 54 1 ir54 rs54 32 := ⟨⟨_, _, 32, Try.func54, rfl, by kernel_rfl, by kernel_rfl, rfl⟩⟩
theorem body54 : HasBody Try.prog 54 := hasBody_of (by kernel_rfl)

def ir70 : IC :=
  .seq (.reg 0 1 [.mk (.some 3) (.mv (.k (.int .i64 0))) .none 0 .none .false [] .false]) (.seq (.reg 1 5 [.mk (.some 8) (.faddr 0 (.t 1)) .none 1 .none .false [] .false, .mk (.some
  9) (.faddr 0 (.t 8)) .none 2 .none .false [] .false, .mk (.some 10) (.load 1 .false (.t 9)) .none 3 .none .false [] .false, .mk (.some 11) (.len (.t 10)) .none 4 .none .false []
  .false, .mk (.some 12) (.mv (.k (.int .i64 0))) .none 5 .none .false [] .false]) (.block 0 (.loop (.seq (.reg 6 1 [.mk (.some 13) (.bin .lss (.t 12) (.t 11)) .none 6 .none .false
  [] .false]) (.seq (.cond (.t 13) .skip (.exit 0)) (.seq (.block 1 (.seq (.reg 7 6 [.mk (.some 14) (.mv (.t 12)) .none 7 .none .false [] .false, .mk (.some 15) (.iaddr 2 (.t 10)
  (.t 12)) .none 8 .none .false [] .false, .mk (.some 16) (.load 2 .true (.t 15)) .none 9 .none .false [] .false, .mk (.some 5) (.alloc 104 [.string (ByteArray.mk (Array.mk [])),
  .slice .none 0 0]) .none 10 .none .false [] .false, .mk (.some 4) (.mv (.t 14)) .none 11 .none .false [] .false, .mk .none (.store 2 (.t 5) (.t 16)) .none 12 .none .false []
  .false]) (.seq (.draw 13 13 [] [] [.mk (.some 17) (.faddr 0 (.t 5)) .none 13 (.some []) .true [] .false, .mk (.some 18) (.load 1 .false (.t 17)) .none 14 (.some []) .true []
  .false, .mk (.some 19) (.mv (.t 3)) .none 15 (.some []) .true [] .false, .mk (.some 20) (.faddr 0 (.t 1)) .none 16 (.some []) .true [] .false, .mk (.some 21) (.faddr 2 (.t 20))
  .none 17 (.some []) .true [] .false, .mk (.some 22) (.load 1 .false (.t 21)) .none 18 (.some []) .true [] .false, .mk (.some 23) (.bin .quo (.t 19) (.t 22)) .none 19 (.some [])
  .true [] .false, .mk (.some 24) (.bin .add (.t 23) (.k (.int .i64 1))) .none 20 (.some []) .true [] .false, .mk (.some 25) (.bld [(0, 1), (1, 1)] [.string (ByteArray.mk (Array.mk
  [])), .int .i64 0] [(0, .t 18), (1, .t 24)]) .none 21 (.some []) .true [] .false, .mk (.some 26) (.mv (.t 4)) .none 22 (.some []) .true [] .false, .mk (.some 6) (.alloc 79
  [.string (ByteArray.mk (Array.mk [])), .int .i64 0]) .none 23 (.some []) .true [] .false, .mk .none (.store 2 (.t 6) (.t 25)) .none 24 (.some [23]) .true [] .false, .mk (.some 7)
  (.mv (.t 26)) .none 25 (.some [23]) .true [] .false]) (.seq (.seq (.reg 26 4 [.mk (.some 27) (.mv (.t 4)) .none 26 .none .false [] .false, .mk (.some 28) (.faddr 5 (.t 1)) .none
  27 .none .false [] .false, .mk (.some 29) (.aaddr 1 60 (.t 28) (.t 27)) .none 28 .none .false [] .false, .mk (.some 30) (.load 1 .false (.t 29)) .none 29 .none .false [] .false])
  (.cond (.t 30) (.seq (.seq (.reg 30 9 [.mk (.some 31) (.mv (.t 4)) .none 30 .none .false [] .false, .mk (.some 32) (.bin .gtr (.t 31) (.k (.int .i64 0))) .none 31 .none .false []
  .false, .mk (.some 33) (.mv (.t 32)) .none 32 .none .false [] .false, .mk (.some 34) (.mv (.t 4)) (.some (33, .true)) 33 .none .false [] .false, .mk (.some 35) (.bin .sub (.t 34)
  (.k (.int .i64 1))) (.some (33, .true)) 34 .none .false [] .false, .mk (.some 36) (.faddr 5 (.t 1)) (.some (33, .true)) 35 .none .false [] .false, .mk (.some 37) (.aaddr 1 60 (.t
  36) (.t 35)) (.some (33, .true)) 36 .none .false [] .false, .mk (.some 38) (.load 1 .false (.t 37)) (.some (33, .true)) 37 .none .false [] .false, .mk (.some 39) (.pick (.t 33)
  (.t 38) (.k (.bool .false))) .none 38 .none .false [] .false]) (.cond (.t 39) (.exit 1) .skip)) (.reg 39 3 [.mk (.some 40) (.faddr 0 (.t 6)) .none 39 .none .false [] .false, .mk
  .none (.store 1 (.t 40) (.k (.string (ByteArray.mk (Array.mk []))))) .none 40 .none .false [] .false, .mk (.some 7) (.mv (.k (.int .i64 (-1)))) .none 41 .none .false [] .false]))
  .skip)) (.seq (.seq (.reg 42 5 [.mk (.some 41) (.mv (.t 0)) .none 42 .none .false [] .false, .mk (.some 42) (.mv (.t 7)) .none 43 .none .false [] .false, .mk (.some 43) (.load 2
  .true (.t 6)) .none 44 .none .false [] .false, .mk (.some 44) (.callv (.t 41) [.t 42, .t 43]) .none 45 .none .false [] .false, .mk (.some 45) (.un .not (.t 44)) .none 46 .none
  .false [] .false]) (.cond (.t 45) .ret .skip)) (.reg 47 3 [.mk (.some 46) (.mv (.t 3)) .none 47 .none .false [] .false, .mk (.some 47) (.bin .add (.t 46) (.k (.int .i64 1))) .none
  48 .none .false [] .false, .mk (.some 3) (.mv (.t 47)) .none 49 .none .false [] .false])))))) (.reg 50 2 [.mk (.some 48) (.bin .add (.t 12) (.k (.int .i64 1))) .none 50 .none
  .false [] .false, .mk (.some 12) (.mv (.t 48)) .none 51 .none .false [] .false])))))))
def rs70 : List IRes := []
set_option maxRecDepth 100000 in
theorem comp70 : Comp Try.prog 70 ir70 rs70 49 := ⟨⟨_, _, 52, Try.func70, rfl, by kernel_rfl, by kernel_rfl, rfl⟩⟩
theorem body70 : HasBody Try.prog 70 := hasBody_of (by kernel_rfl)

end Go.Proofs.Ytpcpjmplgladmaa
