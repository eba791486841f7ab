/- The intermediate forms of functions of the program (printed by a program of mine), each checked against the code. -/
import Derived.Test.YtfppbjfbghaclaaGreatMC
import Derived.Test.YtfppbjfbghaclaaGreatProg
import Derived.KernelRfl
set_option linter.unusedSimpArgs false
set_option linter.unusedVariables false
namespace Go.Proofs.YtfppbjfbghaclaaGreat
open Go.Pal
def ir12:IC :=
 .seq (.reg 0 2 [o1 2 (.box 25 (.t 0)) 0,o1 4 (.mv (.k (.bool .false))) 1]) (.seq (.seq (.reg 2 8 [o1 11 (.load 2 .true (.t 2)) 2,o1 12 (.call 14 [.t 11, .k (.slice .none 0 0)]) 3,o1 13 (.un .not (.t 12)) 4,o1 14 (.mv (.t 13)) 5, .mk (.some 15) (.mv (.t 1)) (.some (14, .false)) 6 .none .false [] .false,
 .mk (.some 16) (.len (.t 15)) (.some (14, .false)) 7 .none .false [] .false, .mk (.some 17) (.bin .gtr (.t 16) (.k (.int .i64 12))) (.some (14, .false)) 8 .none .false [] .false,
 o1 18 (.pick (.t 14) (.k (.bool .true)) (.t 17)) 9]) (.cond (.t 18) (.seq (.reg 10 2 [o1 19 (.call 15 []) 10,o1 4 (.mv (.t 19)) 11]) .ret) .skip)) (.seq (.seq (.reg 12 1 [o1 5 (.mv (.k (.int .i64 0))) 12]) (.block 0 (.loop (.seq (.seq (.reg 13 4 [o1 20 (.mv (.t 5)) 13,o1 21 (.mv (.t 1)) 14,o1 22 (.len (.t 21)) 15,o1 23 (.bin .lss (.t 20) (.t 22)) 16]) (.cond (.t 23) .skip (.exit 0))) (.seq
 (.block 1 (.seq (.reg 17 16 [o1 26 (.mv (.t 1)) 17,o1 27 (.mv (.t 5)) 18,o1 28 (.iaddr 2 (.t 26) (.t 27)) 19,o1 29 (.faddr 0 (.t 28)) 20,o1 30 (.load 1 .false (.t 29)) 21,o1 31 (.call 28 [.t 30]) 22,o1 32 (.un .not (.t 31)) 23,o1 33 (.mv (.t 32)) 24, .mk (.some 34) (.mv (.t 1)) (.some (33, .false)) 25 .none .false [] .false, .mk (.some 35) (.mv (.t 5)) (.some (33, .false)) 26 .none .false [] .false, .mk
 (.some 36) (.iaddr 2 (.t 34) (.t 35)) (.some (33, .false)) 27 .none .false [] .false, .mk (.some 37) (.faddr 1 (.t 36)) (.some (33, .false)) 28 .none .false [] .false, .mk (.some
 38) (.load 1 .false (.t 37)) (.some (33, .false)) 29 .none .false [] .false, .mk (.some 39) (.call 28 [.t 38]) (.some (33, .false)) 30 .none .false [] .false, .mk (.some 40) (.un
 .not (.t 39)) (.some (33, .false)) 31 .none .false [] .false,o1 41 (.pick (.t 33) (.k (.bool .true)) (.t 40)) 32]) (.cond (.t 41) (.seq
 (.reg 33 2 [o1 42 (.call 15 []) 33,o1 4 (.mv (.t 42)) 34]) .ret) .skip))) (.reg 35 3 [o1 24 (.mv (.t 5)) 35,o1 25 (.bin .add (.t 24) (.k (.int .i64 1))) 36,o1 5 (.mv (.t 25)) 37])))))) (.seq (.reg 38 10 [o1 44 (.load 2 .true (.t 2)) 38,o1 45 (.call 17 [.t 44]) 39,o1 46 (.mv (.t 1)) 40,o1 47 (.call 38 [.t 46]) 41,o1 48 (.call 37 [.t 45, .t 47]) 42,o1 43 (.mv (.t 48)) 43,o1 49 (.ext (.t 43) 0) 44,o1 50 (.ext (.t 43) 1) 45,o1 6 (.mv (.t 49)) 46,o1 7 (.mv (.t 50)) 47]) (.seq
 (.seq (.reg 48 8 [o1 51 (.load 2 .true (.t 2)) 48,o1 52 (.call 32 [.t 51]) 49,o1 53 (.un .not (.t 52)) 50,o1 54 (.mv (.t 53)) 51, .mk (.some 55) (.mv (.t 1)) (.some (54, .false)) 52 .none .false []
 .false, .mk (.some 56) (.call 39 [.t 55]) (.some (54, .false)) 53 .none .false [] .false, .mk (.some 57) (.un .not (.t 56)) (.some (54, .false)) 54 .none .false [] .false,o1 58 (.pick (.t 54) (.k (.bool .true)) (.t 57)) 55]) (.cond (.t 58) (.seq (.reg 56 11 [o1 59 (.mv (.t 7)) 56,o1 60 (.bin .eql (.t 59) (.k (.int .i64 1))) 57,o1 61 (.mv (.t 60)) 58, .mk (.some 62) (.mv
 (.t 6)) (.some (61, .true)) 59 .none .false [] .false, .mk (.some 63) (.len (.t 62)) (.some (61, .true)) 60 .none .false [] .false, .mk (.some 64) (.bin .eql (.t 63) (.k (.int
 .i64 0))) (.some (61, .true)) 61 .none .false [] .false,o1 65 (.pick (.t 61) (.t 64) (.k (.bool .false))) 62,o1 66 (.mv (.t 65)) 63, .mk (.some 67) (.call 15 []) (.some (66, .true)) 64 .none .false [] .false,o1 68 (.pick (.t 66) (.t 67) (.k (.bool .false))) 65,o1 4 (.mv (.t 68)) 66]) .ret) .skip)) (.seq (.reg 67 8 [o1 70 (.load 2 .true (.t 2)) 67,o1 71 (.mv (.t 1)) 68,o1 72 (.call 40 [.t 70, .t 71]) 69,o1 69 (.mv (.t 72)) 70,o1 73 (.ext (.t 69) 0) 71,o1 74 (.ext (.t 69) 1) 72,o1 8 (.mv (.t 73)) 73,o1 9 (.mv (.t 74)) 74]) (.seq (.seq (.reg 75 2 [o1 75 (.mv (.t 9)) 75,o1 76 (.un .not (.t 75)) 76]) (.cond (.t 76) (.seq (.reg 77 11 [o1 77 (.mv (.t 7)) 77,o1 78 (.bin .eql (.t 77) (.k (.int .i64 3))) 78,o1 79 (.mv (.t 78)) 79, .mk (.some 80) (.mv
 (.t 6)) (.some (79, .true)) 80 .none .false [] .false, .mk (.some 81) (.len (.t 80)) (.some (79, .true)) 81 .none .false [] .false, .mk (.some 82) (.bin .eql (.t 81) (.k (.int
 .i64 0))) (.some (79, .true)) 82 .none .false [] .false,o1 83 (.pick (.t 79) (.t 82) (.k (.bool .false))) 83,o1 84 (.mv (.t 83)) 84, .mk (.some 85) (.call 15 []) (.some (84, .true)) 85 .none .false [] .false,o1 86 (.pick (.t 84) (.t 85) (.k (.bool .false))) 86,o1 4 (.mv (.t 86)) 87]) .ret) .skip)) (.seq (.seq (.reg 88 9 [o1 87 (.mv (.t 7)) 88,o1 88 (.bin .neq (.t 87) (.k (.int .i64 0))) 89,o1 89 (.mv (.t 88)) 90, .mk (.some 90) (.mv
 (.t 6)) (.some (89, .false)) 91 .none .false [] .false, .mk (.some 91) (.len (.t 90)) (.some (89, .false)) 92 .none .false [] .false, .mk (.some 92) (.mv (.t 8)) (.some (89,
 .false)) 93 .none .false [] .false, .mk (.some 93) (.len (.t 92)) (.some (89, .false)) 94 .none .false [] .false, .mk (.some 94) (.bin .neq (.t 91) (.t 93)) (.some (89, .false))
 95 .none .false [] .false,o1 95 (.pick (.t 89) (.k (.bool .true)) (.t 94)) 96]) (.cond (.t 95) (.seq (.reg 97 1 [o1 4 (.mv (.k (.bool .false))) 97]) .ret) .skip)) (.seq (.seq (.reg 98 1 [o1 10 (.mv (.k (.int .i64 0))) 98]) (.block 2 (.loop
 (.seq (.seq (.reg 99 4 [o1 96 (.mv (.t 10)) 99,o1 97 (.mv (.t 6)) 100,o1 98 (.len (.t 97)) 101,o1 99 (.bin .lss (.t 96) (.t 98)) 102]) (.cond (.t 99) .skip (.exit 2))) (.seq (.block 3 (.seq (.draw 103
 46 [] [] [o3 102 (.mv (.t 6)) 103,o3 103 (.mv (.t 10)) 104,o3 104 (.iaddr 4 (.t 102) (.t 103)) 105,o3 105 (.faddr 0 (.t 104)) 106,o3 106 (.load 1 .false (.t 105)) 107,o3 107 (.bin .neq (.t 106) (.k (.int .i64 0))) 108,o3 108 (.mv (.t 107)) 109, .mk (.some 109) (.mv (.t 6)) (.some (108, .false)) 110 (.some []) .true [] .false, .mk (.some 110) (.mv (.t 10)) (.some (108, .false)) 111 (.some []) .true [] .false,
 .mk (.some 111) (.iaddr 4 (.t 109) (.t 110)) (.some (108, .false)) 112 (.some []) .true [] .false, .mk (.some 112) (.faddr 1 (.t 111)) (.some (108, .false)) 113 (.some []) .true
 [] .false, .mk (.some 113) (.load 1 .false (.t 112)) (.some (108, .false)) 114 (.some []) .true [] .false, .mk (.some 114) (.mv (.t 8)) (.some (108, .false)) 115 (.some []) .true
 [] .false, .mk (.some 115) (.mv (.t 10)) (.some (108, .false)) 116 (.some []) .true [] .false, .mk (.some 116) (.iaddr 4 (.t 114) (.t 115)) (.some (108, .false)) 117 (.some [])
 .true [] .false, .mk (.some 117) (.faddr 1 (.t 116)) (.some (108, .false)) 118 (.some []) .true [] .false, .mk (.some 118) (.load 1 .false (.t 117)) (.some (108, .false)) 119
 (.some []) .true [] .false, .mk (.some 119) (.bin .neq (.t 113) (.t 118)) (.some (108, .false)) 120 (.some []) .true [] .false,o3 120 (.pick (.t 108) (.k (.bool .true)) (.t 119)) 121,o3 121 (.mv (.t 120)) 122, .mk (.some 122) (.mv (.t 6)) (.some (121, .false)) 123 (.some
 []) .true [] .false, .mk (.some 123) (.mv (.t 10)) (.some (121, .false)) 124 (.some []) .true [] .false, .mk (.some 124) (.iaddr 4 (.t 122) (.t 123)) (.some (121, .false)) 125
 (.some []) .true [] .false, .mk (.some 125) (.faddr 2 (.t 124)) (.some (121, .false)) 126 (.some []) .true [] .false, .mk (.some 126) (.load 1 .false (.t 125)) (.some (121,
 .false)) 127 (.some []) .true [] .false, .mk (.some 127) (.mv (.t 8)) (.some (121, .false)) 128 (.some []) .true [] .false, .mk (.some 128) (.mv (.t 10)) (.some (121, .false)) 129
 (.some []) .true [] .false, .mk (.some 129) (.iaddr 4 (.t 127) (.t 128)) (.some (121, .false)) 130 (.some []) .true [] .false, .mk (.some 130) (.faddr 2 (.t 129)) (.some (121,
 .false)) 131 (.some []) .true [] .false, .mk (.some 131) (.load 1 .false (.t 130)) (.some (121, .false)) 132 (.some []) .true [] .false, .mk (.some 132) (.bin .neq (.t 126) (.t
 131)) (.some (121, .false)) 133 (.some []) .true [] .false,o3 133 (.pick (.t 121) (.k (.bool .true)) (.t 132)) 134,o3 134 (.mv (.t 133)) 135, .mk (.some 135) (.mv (.t 6)) (.some (134, .false)) 136 (.some []) .true [] .false, .mk (.some 136) (.mv (.t 10)) (.some (134,
 .false)) 137 (.some []) .true [] .false, .mk (.some 137) (.iaddr 4 (.t 135) (.t 136)) (.some (134, .false)) 138 (.some []) .true [] .false, .mk (.some 138) (.faddr 3 (.t 137))
 (.some (134, .false)) 139 (.some []) .true [] .false, .mk (.some 139) (.load 1 .false (.t 138)) (.some (134, .false)) 140 (.some []) .true [] .false, .mk (.some 140) (.mv (.t 8))
 (.some (134, .false)) 141 (.some []) .true [] .false, .mk (.some 141) (.mv (.t 10)) (.some (134, .false)) 142 (.some []) .true [] .false, .mk (.some 142) (.iaddr 4 (.t 140) (.t
 141)) (.some (134, .false)) 143 (.some []) .true [] .false, .mk (.some 143) (.faddr 3 (.t 142)) (.some (134, .false)) 144 (.some []) .true [] .false, .mk (.some 144) (.load 1
 .false (.t 143)) (.some (134, .false)) 145 (.some []) .true [] .false, .mk (.some 145) (.call 29 [.t 139, .t 144]) (.some (134, .false)) 146 (.some []) .true [] .false, .mk (.some
 146) (.un .not (.t 145)) (.some (134, .false)) 147 (.some [146]) .true [] .false, .mk (.some 147) (.pick (.t 134) (.k (.bool .true)) (.t 146)) .none 148 (.some [146]) .true []
 .false]) (.cond (.t 147) (.seq (.reg 149 1 [o1 4 (.mv (.k (.bool .false))) 149]) .ret) .skip))) (.reg 150 3 [o1 100 (.mv (.t 10)) 150,o1 101 (.bin .add (.t 100) (.k (.int .i64 1))) 151,o1 10 (.mv (.t 101)) 152])))))) (.seq (.reg 153 2 [o1 148 (.call 15 []) 153,o1 4 (.mv (.t 148)) 154]) .ret)))))))))
def rs12:List IRes:=[.tmp 4]
set_option maxRecDepth 100000 in
theorem comp12:Comp Tryz.prog 12 ir12 rs12 149:=⟨⟨_,_,155,Tryz.func12,rfl,by kernel_rfl,by kernel_rfl,rfl⟩⟩
def ir13:IC :=
 .seq (.reg 0 2 [o1 2 (.box 25 (.t 0)) 0,o1 4 (.mv (.k (.bool .false))) 1]) (.seq (.seq (.reg 2 13 [o1 16 (.load 2 .true (.t 2)) 2,o1 17 (.call 14 [.t 16, .k (.slice .none 0 0)]) 3,o1 18 (.un .not (.t 17)) 4,o1 19 (.mv (.t 18)) 5, .mk (.some 20) (.load 2 .true (.t 2)) (.some (19, .false)) 6 .none .false []
 .false, .mk (.some 21) (.call 32 [.t 20]) (.some (19, .false)) 7 .none .false [] .false, .mk (.some 22) (.un .not (.t 21)) (.some (19, .false)) 8 .none .false [] .false,o1 23 (.pick (.t 19) (.k (.bool .true)) (.t 22)) 9,o1 24 (.mv (.t 23)) 10, .mk (.some 25) (.mv (.t 1))
 (.some (24, .false)) 11 .none .false [] .false, .mk (.some 26) (.call 39 [.t 25]) (.some (24, .false)) 12 .none .false [] .false, .mk (.some 27) (.un .not (.t 26)) (.some (24,
 .false)) 13 .none .false [] .false,o1 28 (.pick (.t 24) (.k (.bool .true)) (.t 27)) 14]) (.cond (.t 28) (.seq (.reg 15 2 [o1 29 (.call 15 []) 15,o1 4 (.mv (.t 29)) 16]) .ret) .skip)) (.seq (.reg 17 10 [o1 31 (.load 2 .true (.t 2)) 17,o1 32 (.call 17 [.t 31]) 18,o1 33 (.mv (.t 1)) 19,o1 34 (.call 38 [.t 33]) 20,o1 35 (.call 37 [.t 32, .t 34]) 21,o1 30 (.mv (.t 35)) 22,o1 36 (.ext (.t 30) 0) 23,o1 37 (.ext (.t 30) 1) 24,o1 5 (.mv (.t 36)) 25,o1 6 (.mv (.t 37)) 26]) (.seq (.seq (.reg 27 2 [o1 38 (.mv (.t 6)) 27,o1 39 (.bin .neq (.t 38) (.k (.int .i64 0))) 28]) (.cond (.t 39) (.seq (.reg 29 11 [o1 40 (.mv (.t 6)) 29,
 o1 41 (.bin .eql (.t 40) (.k (.int .i64 3))) 30,o1 42 (.mv (.t 41)) 31, .mk (.some 43) (.mv (.t 1))
 (.some (42, .true)) 32 .none .false [] .false, .mk (.some 44) (.len (.t 43)) (.some (42, .true)) 33 .none .false [] .false, .mk (.some 45) (.bin .gtr (.t 44) (.k (.int .i64 1)))
 (.some (42, .true)) 34 .none .false [] .false,o1 46 (.pick (.t 42) (.t 45) (.k (.bool .false))) 35,o1 47 (.mv (.t 46)) 36, .mk (.some 48) (.call 15 []) (.some (47, .true)) 37 .none .false [] .false,o1 49 (.pick (.t 47) (.t 48) (.k (.bool .false))) 38,o1 4 (.mv (.t 49)) 39]) .ret) .skip)) (.seq (.reg 40 13 [o1 51 (.load 2 .true (.t 2)) 40,o1 52 (.call 17 [.t 51]) 41,o1 53 (.mv (.t 5)) 42,o1 54 (.call 26 [.t 52, .t 53]) 43,o1 50 (.mv (.t 54)) 44,o1 55 (.ext (.t 50) 0) 45,o1 56 (.ext (.t 50) 1) 46,o1 57 (.ext (.t 50) 2) 47,o1 58 (.ext (.t 50) 3) 48,
 o1 7 (.mv (.t 55)) 49,o1 8 (.mv (.t 56)) 50,o1 9 (.mv (.t 57)) 51,o1 10 (.mv (.t 58)) 52]) (.seq (.seq (.reg 53 18 [o1 59 (.mv (.t 10)) 53,o1 60 (.bin .neq (.t 59) (.k (.int .i64 0))) 54,o1 61 (.mv (.t 60)) 55, .mk (.some 62) (.mv (.t 1)) (.some (61, .false)) 56
 .none .false [] .false, .mk (.some 63) (.len (.t 62)) (.some (61, .false)) 57 .none .false [] .false, .mk (.some 64) (.bin .eql (.t 63) (.k (.int .i64 0))) (.some (61, .false)) 58
 .none .false [] .false, .mk (.some 65) (.mv (.t 64)) (.some (61, .false)) 59 .none .false [] .false, .mk (.some 66) (.mv (.t 5)) (.some (65, .true)) 60 .none .false [] .false, .mk
 (.some 67) (.len (.t 66)) (.some (65, .true)) 61 .none .false [] .false, .mk (.some 68) (.bin .neq (.t 67) (.k (.int .i64 0))) (.some (65, .true)) 62 .none .false [] .false, .mk
 (.some 69) (.mv (.t 68)) (.some (65, .true)) 63 .none .false [] .false, .mk (.some 70) (.load 2 .true (.t 2)) (.some (69, .false)) 64 .none .false [] .false, .mk (.some 71) (.mv
 (.t 7)) (.some (69, .false)) 65 .none .false [] .false, .mk (.some 72) (.call 36 [.t 70, .t 71]) (.some (69, .false)) 66 .none .false [] .false, .mk (.some 73) (.un .not (.t 72))
 (.some (69, .false)) 67 .none .false [] .false, .mk (.some 74) (.pick (.t 69) (.k (.bool .true)) (.t 73)) (.some (65, .true)) 68 .none .false [] .false, .mk (.some 75) (.pick (.t
 65) (.t 74) (.k (.bool .false))) (.some (61, .false)) 69 .none .false [] .false,o1 76 (.pick (.t 61) (.k (.bool .true)) (.t 75)) 70]) (.cond
 (.t 76) (.seq (.reg 71 1 [o1 4 (.mv (.k (.bool .false))) 71]) .ret) .skip)) (.seq (.seq (.reg 72 11 [o1 77 (.mv (.t 1)) 72,o1 78 (.len (.t 77)) 73,o1 79 (.bin .neq (.t 78) (.k (.int .i64 1))) 74,o1 80 (.mv (.t 79)) 75, .mk (.some 81) (.mv (.t 1)) (.some (80, .false)) 76 .none .false [] .false, .mk (.some 82) (.iaddr 2 (.t 81) (.k (.int
 .i64 0))) (.some (80, .false)) 77 .none .false [] .false, .mk (.some 83) (.faddr 1 (.t 82)) (.some (80, .false)) 78 .none .false [] .false, .mk (.some 84) (.load 1 .false (.t 83))
 (.some (80, .false)) 79 .none .false [] .false, .mk (.some 85) (.len (.t 84)) (.some (80, .false)) 80 .none .false [] .false, .mk (.some 86) (.bin .eql (.t 85) (.k (.int .i64 0)))
 (.some (80, .false)) 81 .none .false [] .false,o1 87 (.pick (.t 80) (.k (.bool .true)) (.t 86)) 82]) (.cond (.t 87) (.seq (.reg 83 2 [o1 88 (.call 15 []) 83,o1 4 (.mv (.t 88)) 84]) .ret) .skip)) (.seq (.reg 85 5 [o1 89 (.mv (.t 1)) 85,o1 90 (.iaddr 2 (.t 89) (.k (.int .i64 0))) 86,o1 91 (.faddr 0 (.t 90)) 87,o1 92 (.load 1 .false (.t 91)) 88,o1 11 (.mv (.t 92)) 89]) (.seq (.seq (.reg 90 1 [o1 12 (.mv (.k (.int .i64 0))) 90]) (.block 0 (.loop (.seq (.seq (.reg 91 7 [o1 93 (.mv (.t 12)) 91,o1 94 (.mv (.t 11)) 92,o1 95 (.len (.t 94)) 93,o1 96 (.bin .add (.t 93) (.t 95)) 94,o1 97 (.mv (.t 7)) 95,o1 98 (.len (.t 97)) 96,o1 99 (.bin .leq (.t 96) (.t 98)) 97]) (.cond (.t 99) .skip (.exit 0))) (.seq (.block 1 (.seq (.reg 98 1 [o1 13 (.mv (.k (.bool .true))) 98])
 (.seq (.seq (.reg 99 1 [o1 14 (.mv (.k (.int .i64 0))) 99]) (.block 2 (.loop (.seq (.seq (.reg 100 4 [o1 102 (.mv (.t 14)) 100,o1 103 (.mv (.t 11)) 101,o1 104 (.len (.t 103)) 102,o1 105 (.bin .lss (.t 102) (.t 104)) 103]) (.cond (.t 105) .skip (.exit 2))) (.seq (.block 3 (.seq (.reg 104 8 [o1 108 (.mv (.t 7)) 104,o1 109 (.mv (.t 12)) 105,o1 110 (.mv (.t 14)) 106,o1 111 (.bin .add (.t 109) (.t 110)) 107,o1 112 (.iaddr 3 (.t 108) (.t 111)) 108,o1 113 (.load 3 .true (.t 112)) 109, .mk (.some 15) (.alloc 57 [.string (ByteArray.mk (Array.mk [])), .int .i64 0, .int .i64 0]) .none 110 .none .false [] .false,o2 (.store 3 (.t 15) (.t 113)) 111]) (.draw 112 24 [15,2] [] [o3 114 (.mv (.t 13)) 112,o3 115 (.mv (.t 114)) 113, .mk (.some 116) (.faddr 1 (.t 15)) (.some (115, .true)) 114 (.some []) .true [] .false, .mk (.some 117) (.load 1 .false (.t 116)) (.some (115, .true))
 115 (.some []) .true [] .false, .mk (.some 118) (.bin .geq (.t 117) (.k (.int .i64 0))) (.some (115, .true)) 116 (.some []) .true [] .false,o3 119 (.pick (.t 115) (.t 118) (.k (.bool .false))) 117,o3 120 (.mv (.t 119)) 118, .mk (.some 121) (.faddr 1 (.t 2)) (.some (120,
 .true)) 119 (.some []) .true [] .false, .mk (.some 122) (.load 1 .false (.t 121)) (.some (120, .true)) 120 (.some []) .true [] .false, .mk (.some 123) (.faddr 1 (.t 15)) (.some
 (120, .true)) 121 (.some []) .true [] .false, .mk (.some 124) (.load 1 .false (.t 123)) (.some (120, .true)) 122 (.some []) .true [] .false, .mk (.some 125) (.call 24 [.t 122, .t
 124]) (.some (120, .true)) 123 (.some []) .true [] .false, .mk (.some 126) (.un .not (.t 125)) (.some (120, .true)) 124 (.some [123]) .true [] .false, .mk (.some 127) (.pick (.t
 120) (.t 126) (.k (.bool .false))) .none 125 (.some [123]) .true [] .false, .mk (.some 128) (.mv (.t 127)) .none 126 (.some [123]) .true [] .false, .mk (.some 129) (.faddr 0 (.t
 15)) (.some (128, .true)) 127 (.some [123]) .true [] .false, .mk (.some 130) (.load 1 .false (.t 129)) (.some (128, .true)) 128 (.some [123]) .false [] .false, .mk (.some 131)
 (.mv (.t 11)) (.some (128, .true)) 129 (.some [123]) .true [] .false, .mk (.some 132) (.mv (.t 14)) (.some (128, .true)) 130 (.some [123]) .true [] .false, .mk (.some 133) (.iaddr
 1 (.t 131) (.t 132)) (.some (128, .true)) 131 (.some [123]) .true [] .false, .mk (.some 134) (.load 1 .false (.t 133)) (.some (128, .true)) 132 (.some [123]) .false [] .false, .mk
 (.some 135) (.pur (.bin .eql 9) [.t 130, .t 134]) (.some (128, .true)) 133 (.some [123]) .true [] .false, .mk (.some 136) (.pick (.t 128) (.t 135) (.k (.bool .false))) .none 134
 (.some [123]) .true [] .false, .mk (.some 13) (.mv (.t 136)) .none 135 (.some [123]) .true [] .false]))) (.reg 136 3 [o1 106 (.mv (.t 14)) 136,o1 107 (.bin .add (.t 106) (.k (.int .i64 1))) 137,o1 14 (.mv (.t 107)) 138])))))) (.seq (.reg
 139 1 [o1 137 (.mv (.t 13)) 139]) (.cond (.t 137) (.seq (.reg 140 1 [o1 4 (.mv (.k (.bool .false))) 140]) .ret) .skip))))) (.reg 141 3 [o1 100 (.mv (.t 12)) 141,o1 101 (.bin .add (.t 100) (.k (.int .i64 1))) 142,o1 12 (.mv (.t 101)) 143])))))) (.seq (.reg 144 2 [o1 138 (.call 15 []) 144,o1 4 (.mv (.t 138)) 145]) .ret)))))))))
def rs13:List IRes:=[.tmp 4]
set_option maxRecDepth 100000 in
theorem comp13:Comp Tryz.prog 13 ir13 rs13 139:=⟨⟨_,_,146,Tryz.func13,rfl,by kernel_rfl,by kernel_rfl,rfl⟩⟩
def ir14:IC :=
 .seq (.reg 0 2 [o1 2 (.box 25 (.t 0)) 0,o1 4 (.mv (.k (.bool .false))) 1]) (.seq (.seq (.reg 2 1 [o1 5 (.mv (.k (.int .i64 0))) 2]) (.block 0 (.loop (.seq (.seq (.reg 3 5 [o1 7 (.mv (.t 5)) 3,o1 8 (.faddr 0 (.t 2)) 4,o1 9 (.load 1 .false (.t 8)) 5,o1 10 (.len (.t 9)) 6,o1 11 (.bin .lss (.t 7) (.t 10)) 7]) (.cond (.t 11) .skip (.exit 0))) (.seq (.block 1 (.seq (.reg 8 8 [o1 14 (.faddr 0 (.t 2)) 8,o1 15 (.load 1 .false (.t 14)) 9,o1 16 (.mv (.t 5)) 10,o1 17 (.iaddr 3 (.t 15) (.t 16)) 11,o1 18 (.faddr 0 (.t 17)) 12,o1 19 (.load 1 .false (.t 18)) 13,o1 20 (.lenS (.t 19)) 14,o1 21 (.bin .gtr (.t 20) (.k (.int .i64 40))) 15])
 (.cond (.t 21) (.seq (.reg 16 1 [o1 4 (.mv (.k (.bool .false))) 16]) .ret) .skip))) (.reg 17 3 [o1 12 (.mv (.t 5)) 17,o1 13 (.bin .add (.t 12) (.k (.int .i64 1))) 18,o1 5 (.mv (.t 13)) 19])))))) (.seq
 (.seq (.reg 20 1 [o1 6 (.mv (.k (.int .i64 0))) 20]) (.block 2 (.loop (.seq (.seq (.reg 21 4 [o1 22 (.mv (.t 6)) 21,o1 23 (.mv (.t 1)) 22,o1 24 (.len (.t 23)) 23,o1 25 (.bin .lss (.t 22) (.t 24)) 24]) (.cond (.t 25) .skip (.exit 2))) (.seq (.block 3 (.seq (.reg 25 7 [o1 28 (.mv (.t 1)) 25,o1 29 (.mv (.t 6)) 26,o1 30 (.iaddr 4 (.t 28) (.t 29)) 27,o1 31 (.faddr 3 (.t 30)) 28,o1 32 (.load 1 .false (.t 31)) 29,o1 33 (.call 28 [.t 32]) 30,o1 34 (.un .not (.t 33)) 31]) (.cond (.t 34) (.seq (.reg 32 1 [o1 4 (.mv (.k (.bool .false))) 32]) .ret) .skip))) (.reg 33
 3 [o1 26 (.mv (.t 6)) 33,o1 27 (.bin .add (.t 26) (.k (.int .i64 1))) 34,o1 6 (.mv (.t 27)) 35])))))) (.seq (.reg 36 16 [o1 35 (.faddr 0 (.t 2)) 36,o1 36 (.load 1 .false (.t 35)) 37,o1 37 (.len (.t 36)) 38,o1 38 (.bin .leq (.t 37) (.k (.int .i64 65))) 39,o1 39 (.mv (.t 38)) 40, .mk (.some 40) (.faddr 1 (.t 2)) (.some (39, .true)) 41 .none .false [] .false, .mk (.some 41) (.load 1 .false (.t 40)) (.some
 (39, .true)) 42 .none .false [] .false, .mk (.some 42) (.len (.t 41)) (.some (39, .true)) 43 .none .false [] .false, .mk (.some 43) (.bin .leq (.t 42) (.k (.int .i64 70))) (.some
 (39, .true)) 44 .none .false [] .false,o1 44 (.pick (.t 39) (.t 43) (.k (.bool .false))) 45,o1 45 (.mv (.t 44)) 46, .mk (.some 46) (.mv (.t 1)) (.some (45, .true)) 47 .none .false [] .false, .mk (.some 47) (.len (.t 46)) (.some (45, .true)) 48 .none .false [] .false, .mk
 (.some 48) (.bin .leq (.t 47) (.k (.int .i64 85))) (.some (45, .true)) 49 .none .false [] .false,o1 49 (.pick (.t 45) (.t 48) (.k (.bool .false))) 50,o1 4 (.mv (.t 49)) 51]) .ret)))
def rs14:List IRes:=[.tmp 4]
set_option maxRecDepth 100000 in
theorem comp14:Comp Tryz.prog 14 ir14 rs14 50:=⟨⟨_,_,52,Tryz.func14,rfl,by kernel_rfl,by kernel_rfl,rfl⟩⟩
theorem body14:HasBody Tryz.prog 14:=hasBody_of (by kernel_rfl)
def ir15:IC :=
 .seq (.reg 0 1 [o1 0 (.mv (.k (.bool .false))) 0]) (.seq (.reg 1 7 [o1 15 (.call 41 []) 1,o1 14 (.mv (.t 15)) 2,o1 16 (.ext (.t 14) 0) 3,o1 17 (.ext (.t 14) 1) 4,o1 1 (.alloc 35 [.slice .none 0 0, .slice .none 0 0]) 5,o2 (.store 2 (.t 1) (.t 16)) 6,o1 2 (.mv (.t 17)) 7]) (.seq (.reg 8 12 [o1 19 (.load 2 .true (.t 1)) 8,o1 20 (.mv (.t 2)) 9,o1 21 (.call 26 [.t 19, .t 20]) 10,o1 18 (.mv (.t 21)) 11,o1 22 (.ext (.t 18) 0) 12,o1 23 (.ext (.t 18) 1) 13,o1 24 (.ext (.t 18) 2) 14,o1 25 (.ext (.t 18) 3) 15,o1 3 (.mv (.t 22)) 16,o1 4 (.mv (.t 23)) 17,o1 5 (.mv (.t 24)) 18,o1 6 (.mv (.t 25)) 19]) (.seq (.drawd 20 15 [1] [] [] [.some [1], .none, .none,
 .none, .some [2], .none, .none, .none, .none, .none, .none, .none, .none, .none, .none] [(0,o3 27 (.load 2 .true (.t 1)) 20),(1,o3 28 (.mv (.t 2)) 21),(2,o3 29 (.bld [(0,1),(1,1),(2,1),(3,1)] [.int .i64 0, .int .i64 0, .int .i64 0, .slice .none 0 0] [(0, .k (.int .i64 1))]) 22),(3, .mk (.some 30) (.bsl 76 4 1 [.int .i64 0, .int .i64 0, .int .i64 0, .slice .none 0 0] [(0, .t 29)]) .none 23
 (.some []) .true [2] .false),(4, .mk (.some 31) (.app 76 4 48 (.t 28) (.t 30)) .none 24 (.some [23]) .true [2,3,1] .true),(5, .mk (.some 32) (.callv (.f 26) [.t 27, .t 31])
 .none 25 (.some [23,24]) .false [1,3,2,4,0] .false),(6, .mk (.some 26) (.mv (.t 32)) .none 26 (.some [24,23,25]) .true [0,4,2,3,1,5] .false),(7, .mk (.some 33) (.ext
 (.t 26) 0) .none 27 (.some [25,23,24]) .true [5,1,3,2,4,0,6] .false),(8, .mk (.some 34) (.ext (.t 26) 1) .none 28 (.some [25,23,24]) .true [5,1,3,2,4,0,6]
 .false),(9, .mk (.some 35) (.ext (.t 26) 2) .none 29 (.some [25,23,24]) .true [5,1,3,2,4,0,6] .false),(10, .mk (.some 36) (.ext (.t 26) 3) .none 30 (.some [25,23,24])
 .true [5,1,3,2,4,0,6] .false),(11, .mk (.some 7) (.mv (.t 33)) .none 31 (.some [24,23,25]) .true [6,0,4,2,3,1,5,7] .false),(12, .mk (.some 8) (.mv (.t 34)) .none
 32 (.some [24,23,25]) .true [7,11,6,0,4,2,3,1,5,8] .false),(13, .mk (.some 9) (.mv (.t 35)) .none 33 (.some [24,23,25]) .true [8,11,7,12,6,0,4,2,3,1,5,9]
 .false),(14, .mk (.some 10) (.mv (.t 36)) .none 34 (.some [24,23,25]) .true [9,12,7,11,8,13,6,0,4,2,3,1,5,10] .false)]) (.seq (.reg 35 10 [o1 38 (.load 2 .true (.t 1)) 35,o1 39 (.mv (.t 2)) 36,o1 40 (.call 16 [.t 38, .t 39]) 37,o1 37 (.mv (.t 40)) 38,o1 41 (.ext (.t 37) 0) 39,o1 42 (.ext (.t 37) 1) 40,o1 43 (.ext (.t 37) 2) 41,o1 11 (.mv (.t 41)) 42,o1 12 (.mv (.t 42)) 43,o1 13 (.mv (.t 43)) 44]) (.seq (.reg 45 60 [o1 44 (.mv (.t 6)) 45,o1 45 (.bin .eql (.t 44) (.k (.int .i64 0))) 46,o1 46 (.mv (.t 45)) 47, .mk (.some 47) (.mv (.t 3)) (.some
 (46, .true)) 48 .none .false [] .false, .mk (.some 48) (.call 30 [.t 47]) (.some (46, .true)) 49 .none .false [] .false, .mk (.some 49) (.bsl 9 1 5 [.string (ByteArray.mk
 (Array.mk [])), .string (ByteArray.mk (Array.mk [])), .string (ByteArray.mk (Array.mk [])), .string (ByteArray.mk (Array.mk [])), .string (ByteArray.mk (Array.mk []))] [(0, .k
 (.string (ByteArray.mk (Array.mk [116,104,101])))),(1, .k (.string (ByteArray.mk (Array.mk [77,101,109,98,101,114])))),(2, .k (.string (ByteArray.mk (Array.mk [115,97,
 121,115])))),(3, .k (.string (ByteArray.mk (Array.mk [116,104,97,116])))),(4, .k (.string (ByteArray.mk (Array.mk [110,111]))))]) (.some (46, .true)) 50 .none .false []
 .false, .mk (.some 50) (.call 29 [.t 48, .t 49]) (.some (46, .true)) 51 .none .false [] .false,o1 51 (.pick (.t 46) (.t 50) (.k (.bool .false))) 52,o1 52 (.mv (.t 51)) 53, .mk (.some 53) (.mv (.t 4)) (.some (52, .true)) 54 .none .false [] .false, .mk (.some 54) (.bsl 3 1 3 [.int
 .i64 0, .int .i64 0, .int .i64 0] [(0, .k (.int .i64 1)),(1, .k (.int .i64 2)),(2, .k (.int .i64 3))]) (.some (52, .true)) 55 .none .false [] .false, .mk (.some 55) (.call 23
 [.t 53, .t 54]) (.some (52, .true)) 56 .none .false [] .false,o1 56 (.pick (.t 52) (.t 55) (.k (.bool .false))) 57,o1 57 (.mv (.t 56)) 58, .mk (.some 58) (.mv (.t 10)) (.some (57, .true)) 59 .none .false [] .false, .mk (.some 59) (.bin .eql (.t 58) (.k (.int .i64 0))) (.some (57,
 .true)) 60 .none .false [] .false,o1 60 (.pick (.t 57) (.t 59) (.k (.bool .false))) 61,o1 61 (.mv (.t 60)) 62, .mk (.some 62) (.mv (.t 7)) (.some (61, .true)) 63 .none .false [] .false, .mk (.some 63) (.call 30 [.t 62]) (.some (61, .true)) 64 .none .false [] .false, .mk (.some
 64) (.bsl 9 1 6 [.string (ByteArray.mk (Array.mk [])), .string (ByteArray.mk (Array.mk [])), .string (ByteArray.mk (Array.mk [])), .string (ByteArray.mk (Array.mk [])), .string
 (ByteArray.mk (Array.mk [])), .string (ByteArray.mk (Array.mk []))] [(0, .k (.string (ByteArray.mk (Array.mk [116,104,101])))),(1, .k (.string (ByteArray.mk (Array.mk [77,101,
 109,98,101,114])))),(2, .k (.string (ByteArray.mk (Array.mk [101,114])))),(3, .k (.string (ByteArray.mk (Array.mk [115,97,121,115])))),(4, .k (.string (ByteArray.mk
 (Array.mk [116,104,97,116])))),(5, .k (.string (ByteArray.mk (Array.mk [110,111]))))]) (.some (61, .true)) 65 .none .false [] .false, .mk (.some 65) (.call 29 [.t 63, .t 64])
 (.some (61, .true)) 66 .none .false [] .false,o1 66 (.pick (.t 61) (.t 65) (.k (.bool .false))) 67,o1 67 (.mv (.t 66)) 68, .mk (.some 68) (.mv (.t 13)) (.some (67, .true)) 69 .none .false [] .false, .mk (.some 69) (.bin .eql (.t 68) (.k (.int .i64 0))) (.some (67, .true)) 70
 .none .false [] .false,o1 70 (.pick (.t 67) (.t 69) (.k (.bool .false))) 71,o1 71 (.mv (.t 70)) 72,
 .mk (.some 72) (.mv (.t 11)) (.some (71, .true)) 73 .none .false [] .false, .mk (.some 73) (.len (.t 72)) (.some (71, .true)) 74 .none .false [] .false, .mk (.some 74) (.bin .eql
 (.t 73) (.k (.int .i64 5))) (.some (71, .true)) 75 .none .false [] .false,o1 75 (.pick (.t 71) (.t 74) (.k (.bool .false))) 76,o1 76 (.mv (.t 75)) 77, .mk (.some 77) (.mv (.t 11)) (.some (76, .true)) 78 .none .false [] .false, .mk (.some 78) (.iaddr 4 (.t 77) (.k (.int .i64 1)))
 (.some (76, .true)) 79 .none .false [] .false, .mk (.some 79) (.faddr 0 (.t 78)) (.some (76, .true)) 80 .none .false [] .false, .mk (.some 80) (.load 1 .false (.t 79)) (.some (76,
 .true)) 81 .none .false [] .false, .mk (.some 81) (.bsl 3 1 2 [.int .i64 0, .int .i64 0] [(0, .k (.int .i64 1)),(1, .k (.int .i64 2))]) (.some (76, .true)) 82 .none .false []
 .false, .mk (.some 82) (.call 23 [.t 80, .t 81]) (.some (76, .true)) 83 .none .false [] .false,o1 83 (.pick (.t 76) (.t 82) (.k (.bool .false))) 84,o1 84 (.mv (.t 83)) 85, .mk (.some 85) (.mv (.t 11)) (.some (84, .true)) 86 .none .false [] .false, .mk (.some 86) (.iaddr 4 (.t 85)
 (.k (.int .i64 1))) (.some (84, .true)) 87 .none .false [] .false, .mk (.some 87) (.faddr 1 (.t 86)) (.some (84, .true)) 88 .none .false [] .false, .mk (.some 88) (.load 1 .false
 (.t 87)) (.some (84, .true)) 89 .none .false [] .false, .mk (.some 89) (.bin .eql (.t 88) (.k (.int .i64 1))) (.some (84, .true)) 90 .none .false [] .false,o1 90 (.pick (.t 84) (.t 89) (.k (.bool .false))) 91,o1 91 (.mv (.t 90)) 92, .mk (.some 92) (.mv (.t 11)) (.some (91,
 .true)) 93 .none .false [] .false, .mk (.some 93) (.iaddr 4 (.t 92) (.k (.int .i64 1))) (.some (91, .true)) 94 .none .false [] .false, .mk (.some 94) (.faddr 2 (.t 93)) (.some
 (91, .true)) 95 .none .false [] .false, .mk (.some 95) (.load 1 .false (.t 94)) (.some (91, .true)) 96 .none .false [] .false, .mk (.some 96) (.bin .eql (.t 95) (.k (.int .i64
 2))) (.some (91, .true)) 97 .none .false [] .false,o1 97 (.pick (.t 91) (.t 96) (.k (.bool .false))) 98,o1 98 (.mv (.t 97)) 99, .mk (.some 99) (.mv (.t 12)) (.some (98, .true)) 100 .none .false [] .false, .mk (.some 100) (.bsl 3 1 1 [.int .i64 0] [(0, .k (.int .i64 3))]) (.some
 (98, .true)) 101 .none .false [] .false, .mk (.some 101) (.call 23 [.t 99, .t 100]) (.some (98, .true)) 102 .none .false [] .false,o1 102 (.pick (.t 98) (.t 101) (.k (.bool .false))) 103,o1 0 (.mv (.t 102)) 104]) .ret)))))
def rs15:List IRes:=[.tmp 0]
set_option maxRecDepth 100000 in
theorem comp15:Comp Tryz.prog 15 ir15 rs15 103:=⟨⟨_,_,105,Tryz.func15,rfl,by kernel_rfl,by kernel_rfl,rfl⟩⟩
theorem body15:HasBody Tryz.prog 15:=hasBody_of (by kernel_rfl)
def ir17:IC :=
 .seq (.reg 0 2 [o1 1 (.box 25 (.t 0)) 0,o1 2 (.alloc 35 [.slice .none 0 0, .slice .none 0 0]) 1]) (.seq
 (.reg 2 6 [o1 6 (.faddr 1 (.t 1)) 2,o1 7 (.load 1 .false (.t 6)) 3,o1 8 (.app 3 1 8 (.k (.slice .none 0 0)) (.t 7)) 4,o1 9 (.bld [(0,1),(1,1)] [.slice .none 0 0, .slice .none 0 0] [(1, .t 8)]) 5,
 o1 3 (.alloc 35 [.slice .none 0 0, .slice .none 0 0]) 6,o2 (.store 2 (.t 3) (.t 9)) 7]) (.seq (.seq
 (.reg 8 1 [o1 4 (.mv (.k (.int .i64 0))) 8]) (.block 0 (.loop (.seq (.seq (.reg 9 5 [o1 10 (.mv (.t 4)) 9,o1 11 (.faddr 0 (.t 1)) 10,o1 12 (.load 1 .false (.t 11)) 11,o1 13 (.len (.t 12)) 12,o1 14 (.bin .lss (.t 10) (.t 13)) 13]) (.cond (.t 14) .skip (.exit 0))) (.seq (.block 1 (.seq (.reg 14 7
 [o1 17 (.faddr 0 (.t 1)) 14,o1 18 (.load 1 .false (.t 17)) 15,o1 19 (.mv (.t 4)) 16,o1 20 (.iaddr 3 (.t 18) (.t 19)) 17,o1 21 (.load 3 .true (.t 20)) 18, .mk
 (.some 5) (.alloc 63 [.string (ByteArray.mk (Array.mk [])), .int .i64 0, .int .i64 0]) .none 19 .none .false [] .false,o2 (.store 3 (.t 5) (.t 21)) 20]) (.reg 21 13 [o1 22 (.faddr 0 (.t 3)) 21,o1 23 (.load 1 .false (.t 22)) 22,o1 24 (.faddr 0 (.t 5)) 23,o1 25 (.load 1 .false (.t 24)) 24,o1 26 (.faddr 1 (.t 5)) 25,o1 27 (.load 1 .false (.t 26)) 26,o1 28 (.faddr 2 (.t 5)) 27,o1 29 (.load 1 .false (.t 28)) 28, .mk (.some 30) (.bld [(0,1),(1,1),(2,1)] [.string (ByteArray.mk (Array.mk [])), .int .i64 0, .int .i64 0] [(0, .t 25),(1, .t
 27),(2, .t 29)]) .none 29 .none .false [] .false, .mk (.some 31) (.bsl 107 3 1 [.string (ByteArray.mk (Array.mk [])), .int .i64 0, .int .i64 0] [(0, .t 30)]) .none 30 .none
 .false [] .false,o1 32 (.app 107 3 32 (.t 23) (.t 31)) 31,o1 33 (.faddr 0 (.t 3)) 32,o2 (.store 1 (.t 33) (.t 32)) 33]))) (.reg 34 3 [o1 15 (.mv (.t 4)) 34,o1 16 (.bin .add (.t 15) (.k (.int .i64 1))) 35,o1 4 (.mv (.t 16)) 36])))))) (.seq (.reg 37 2 [o1 34 (.load 2 .true (.t 3)) 37,o2 (.store 2 (.t 2) (.t 34)) 38]) .ret)))
def rs17:List IRes:=[.cell 2 2 .true]
set_option maxRecDepth 100000 in
theorem comp17:Comp Tryz.prog 17 ir17 rs17 35:=⟨⟨_,_,39,Tryz.func17,rfl,by kernel_rfl,by kernel_rfl,rfl⟩⟩
theorem body17:HasBody Tryz.prog 17:=hasBody_of (by kernel_rfl)
def ir18:IC :=
 .seq (.reg 0 1 [o1 2 (.mv (.k (.slice .none 0 0))) 0]) (.seq (.reg 1 1 [o1 3 (.mv (.k (.slice .none 0 0))) 1]) (.seq (.seq (.reg 2 1 [o1 4 (.mv (.k (.int .i64 0))) 2]) (.block 0 (.loop (.seq (.seq (.reg 3 4 [o1 5 (.mv (.t 4)) 3,o1 6 (.mv (.t 0)) 4,o1 7 (.len (.t 6)) 5,o1 8 (.bin .lss (.t 5) (.t 7)) 6]) (.cond (.t 8) .skip (.exit 0))) (.seq (.block 1 (.draw 7 26 [] [] [o3 11 (.mv (.t 3)) 7,o3 12 (.mv (.t 0)) 8,o3 13 (.mv (.t 4)) 9,o3 14 (.iaddr 4 (.t 12) (.t 13)) 10,o3 15 (.faddr 0 (.t 14)) 11,o3 16 (.load 1 .false (.t 15)) 12,o3 17 (.mv (.t 0)) 13,o3 18 (.mv (.t 4)) 14,o3 19 (.iaddr 4 (.t 17) (.t 18)) 15,o3 20 (.faddr 1 (.t 19)) 16,o3 21 (.load 1 .false (.t 20)) 17,o3 22 (.mv (.t 0)) 18,o3 23 (.mv (.t 4)) 19,o3 24 (.iaddr 4 (.t 22) (.t 23)) 20,o3 25 (.faddr 2 (.t 24)) 21,o3 26 (.load 1 .false (.t 25)) 22,o3 27 (.mv (.t 0)) 23,o3 28 (.mv (.t 4)) 24,o3 29 (.iaddr 4 (.t 27) (.t 28)) 25,o3 30 (.faddr 3 (.t 29)) 26,o3 31 (.load 1 .false (.t 30)) 27,o3 32 (.call 46 [.t 31]) 28, .mk (.some 33) (.bld [(0,1),(1,1),(2,1),(3,1)] [.int .i64 0, .int .i64 0, .int .i64 0, .slice .none 0 0] [(0, .t
 16),(1, .t 21),(2, .t 26),(3, .t 32)]) .none 29 (.some [28]) .true [] .false, .mk (.some 34) (.bsl 76 4 1 [.int .i64 0, .int .i64 0, .int .i64 0, .slice .none 0 0] [(0, .t
 33)]) .none 30 (.some [28]) .true [] .false, .mk (.some 35) (.app 76 4 48 (.t 11) (.t 34)) .none 31 (.some [28,30]) .false [] .false, .mk (.some 3) (.mv (.t 35)) .none 32 (.some
 [30,28,31]) .true [] .false])) (.reg 33 3 [o1 9 (.mv (.t 4)) 33,o1 10 (.bin .add (.t 9) (.k (.int .i64 1))) 34,o1 4 (.mv (.t 10)) 35])))))) (.seq (.reg 36 2 [o1 36 (.mv (.t 3)) 36,o1 2 (.mv (.t 36)) 37]) .ret)))
def rs18:List IRes:=[.tmp 2]
set_option maxRecDepth 100000 in
theorem comp18:Comp Tryz.prog 18 ir18 rs18 37:=⟨⟨_,_,38,Tryz.func18,rfl,by kernel_rfl,by kernel_rfl,rfl⟩⟩
theorem body18:HasBody Tryz.prog 18:=hasBody_of (by kernel_rfl)
def ir19:IC :=
 .seq (.reg 0 3 [o1 2 (.box 25 (.t 0)) 0,o1 4 (.mv (.k (.int .i64 0))) 1,o1 5 (.mv (.k (.int .i64 0))) 2]) (.seq (.seq (.reg 3 3 [o1 9 (.load 2 .true (.t 2)) 3,o1 10 (.call 32 [.t 9]) 4,o1 11 (.un .not (.t 10)) 5]) (.cond (.t 11) (.seq (.reg 6 2 [o1 4 (.mv (.k (.int .i64 1))) 6,o1 5 (.mv (.k (.int .i64 0))) 7]) .ret) .skip)) (.seq (.seq (.reg 8 3 [o1 12 (.mv (.t 1)) 8,o1 13 (.len (.t 12)) 9,o1 14 (.bin .gtr (.t 13) (.k (.int .i64 80))) 10]) (.cond (.t 14) (.seq
 (.reg 11 2 [o1 4 (.mv (.k (.int .i64 3))) 11,o1 5 (.mv (.k (.int .i64 0))) 12]) .ret) .skip)) (.seq
 (.seq (.reg 13 10 [o1 16 (.load 2 .true (.t 2)) 13,o1 17 (.mv (.t 1)) 14,o1 18 (.call 20 [.t 16, .t 17]) 15,o1 15 (.mv (.t 18)) 16,o1 19 (.ext (.t 15) 0) 17,o1 20 (.ext (.t 15) 1) 18,o1 21 (.ext (.t 15) 2) 19,o1 6 (.mv (.t 19)) 20,o1 7 (.mv (.t 20)) 21,o1 8 (.mv (.t 21)) 22]) (.seq (.reg 23 2 [o1 22 (.mv (.t 8)) 23,o1 23 (.bin .geq (.t 22) (.k (.int .i64 0))) 24]) (.cond (.t 23) (.seq (.reg 25 3 [o1 24 (.mv (.t 8)) 25,o1 4 (.mv (.k (.int .i64 9))) 26,o1 5 (.mv (.t 24)) 27]) .ret)
 .skip))) (.seq (.reg 28 2 [o1 4 (.mv (.k (.int .i64 0))) 28,o1 5 (.mv (.k (.int .i64 0))) 29])
 .ret))))
def rs19:List IRes:=[.tmp 4, .tmp 5]
set_option maxRecDepth 100000 in
theorem comp19:Comp Tryz.prog 19 ir19 rs19 25:=⟨⟨_,_,30,Tryz.func19,rfl,by kernel_rfl,by kernel_rfl,rfl⟩⟩
theorem body19:HasBody Tryz.prog 19:=hasBody_of (by kernel_rfl)
def ir20:IC :=
 .seq (.reg 0 4 [o1 2 (.box 25 (.t 0)) 0,o1 4 (.mv (.k (.slice .none 0 0))) 1,o1 5 (.mv (.k (.slice .none 0 0))) 2,o1 6 (.mv (.k (.int .i64 0))) 3]) (.seq (.reg 4 4 [o1 13 (.load 2 .true (.t 2)) 4,o1 14 (.call 47 [.t 13]) 5,o1 7 (.mv (.t 14)) 6,o1 8 (.mv (.k (.int .i64 0))) 7]) (.seq (.reg 8 1 [o1 9 (.mv (.k (.slice .none 0 0))) 8]) (.seq (.seq (.reg 9 1 [o1 10 (.mv (.k (.int .i64 0))) 9]) (.block 0 (.loop (.seq (.seq (.reg 10 4 [o1 15 (.mv (.t 10)) 10,o1 16 (.mv (.t 1)) 11,o1 17 (.len (.t 16)) 12,o1 18 (.bin .lss (.t 15) (.t 17)) 13]) (.cond (.t 18) .skip (.exit 0))) (.seq (.block 1 (.seq (.reg 14 6 [o1 21 (.mv (.t 1)) 14,o1 22 (.mv (.t 10)) 15,o1 23 (.iaddr 4 (.t 21) (.t 22)) 16,o1 24 (.load 4 .true (.t 23)) 17,
 o1 11 (.alloc 61 [.int .i64 0, .int .i64 0, .int .i64 0, .slice .none 0 0]) 18,o2 (.store 4 (.t 11) (.t 24)) 19]) (.seq (.seq (.reg 20 3 [o1 25 (.faddr 0 (.t 11)) 20,o1 26 (.load 1 .false (.t 25)) 21,o1 27 (.bin .neq (.t 26) (.k (.int .i64 0))) 22]) (.cond (.t 27) (.seq (.seq (.reg 23 11 [o1 28 (.faddr 0 (.t 11)) 23,o1 29 (.load 1 .false (.t 28)) 24,o1 30 (.bin .lss (.t 29) (.k (.int .i64 0))) 25,o1 31 (.mv (.t 30)) 26, .mk (.some 32) (.mv (.t 7)) (.some (31, .false)) 27 .none .false [] .false, .mk (.some 33) (.mv (.t 9)) (.some (31,
 .false)) 28 .none .false [] .false, .mk (.some 34) (.faddr 0 (.t 11)) (.some (31, .false)) 29 .none .false [] .false, .mk (.some 35) (.load 1 .false (.t 34)) (.some (31, .false))
 30 .none .false [] .false, .mk (.some 36) (.call 35 [.t 32, .t 33, .t 35]) (.some (31, .false)) 31 .none .false [] .false, .mk (.some 37) (.un .not (.t 36)) (.some (31, .false))
 32 .none .false [] .false,o1 38 (.pick (.t 31) (.k (.bool .true)) (.t 37)) 33]) (.cond (.t 38) (.seq (.reg 34 6 [o1 39 (.mv (.t 7)) 34,o1 40 (.mv (.t 9)) 35,o1 41 (.mv (.t 10)) 36,o1 4 (.mv (.t 39)) 37,o1 5 (.mv (.t 40)) 38,o1 6 (.mv (.t 41)) 39]) .ret) .skip))
 (.seq (.draw 40 10 [11] [] [o3 42 (.mv (.t 7)) 40,o3 43 (.faddr 0 (.t 11)) 41,o3 44 (.load 1 .false (.t 43)) 42,o3 45 (.call 48 [.t 42, .t 44]) 43,o3 46 (.mv (.t 9)) 44,o3 47 (.faddr 0 (.t 11)) 45,o3 48 (.load 1 .false (.t 47)) 46, .mk
 (.some 49) (.call 49 [.t 46, .t 48]) .none 47 (.some [43]) .false [] .false, .mk (.some 7) (.mv (.t 45)) .none 48 (.some [47,43]) .true [] .false, .mk (.some 9) (.mv (.t 49))
 .none 49 (.some [43,47]) .true [] .false]) (.exit 1))) .skip)) (.seq (.reg 50 1 [o1 12 (.mv (.k (.bool .false))) 50]) (.seq (.reg 51 11 [o1 51 (.load 2 .true (.t 2)) 51,o1 52 (.mv (.t 7)) 52,o1 53 (.load 4 .true (.t 11)) 53,o1 54 (.mv (.t 8)) 54,o1 55 (.bin .add (.t 54) (.k (.int .i64 1))) 55,o1 56 (.call 50 [.t 51, .t 52, .t 53, .t 55]) 56,o1 50 (.mv (.t 56)) 57,o1 57 (.ext (.t 50) 0) 58,o1 58 (.ext (.t 50) 1) 59,o1 7 (.mv (.t 57)) 60,o1 12 (.mv (.t 58)) 61]) (.seq (.seq (.reg 62 2 [o1 59 (.mv (.t 12)) 62,o1 60 (.un .not (.t 59)) 63]) (.cond (.t 60) (.seq (.reg 64 6 [o1 61 (.mv (.t 7)) 64,o1 62 (.mv (.t 9)) 65,o1 63 (.mv (.t 10)) 66,o1 4 (.mv (.t 61)) 67,o1 5 (.mv (.t 62)) 68,
 o1 6 (.mv (.t 63)) 69]) .ret) .skip)) (.seq (.reg 70 3 [o1 64 (.mv (.t 8)) 70,o1 65 (.bin .add (.t 64) (.k (.int .i64 1))) 71,o1 8 (.mv (.t 65)) 72]) (.reg 73 5 [o1 66 (.mv (.t 9)) 73,o1 67 (.mv (.t 8)) 74,o1 68 (.bsl 3 1 1 [.int .i64 0] [(0, .t 67)]) 75,o1 69 (.app 3 1 8 (.t 66) (.t 68)) 76,o1 9 (.mv (.t 69)) 77])))))))) (.reg 78 3 [o1 19 (.mv (.t 10)) 78,o1 20 (.bin .add (.t 19) (.k (.int .i64 1))) 79,o1 10 (.mv (.t 20)) 80])))))) (.seq (.reg 81 5 [o1 70 (.mv (.t 7)) 81,o1 71 (.mv (.t 9)) 82,o1 4 (.mv (.t 70)) 83,o1 5 (.mv (.t 71)) 84,o1 6 (.mv (.k (.int .i64 (-1)))) 85])
 .ret))))
def rs20:List IRes:=[.tmp 4, .tmp 5, .tmp 6]
set_option maxRecDepth 100000 in
theorem comp20:Comp Tryz.prog 20 ir20 rs20 72:=⟨⟨_,_,86,Tryz.func20,rfl,by kernel_rfl,by kernel_rfl,rfl⟩⟩
theorem body20:HasBody Tryz.prog 20:=hasBody_of (by kernel_rfl)
def ir21:IC :=
 .seq (.reg 0 1 [o1 2 (.mv (.k (.slice .none 0 0))) 0]) (.seq (.reg 1 1 [o1 3 (.mv (.k (.slice .none 0 0))) 1]) (.seq (.seq (.reg 2 1 [o1 4 (.mv (.k (.int .i64 0))) 2]) (.block 0 (.loop (.seq (.seq (.reg 3 4 [o1 5 (.mv (.t 4)) 3,o1 6 (.mv (.t 0)) 4,o1 7 (.len (.t 6)) 5,o1 8 (.bin .lss (.t 5) (.t 7)) 6]) (.cond (.t 8) .skip (.exit 0))) (.seq (.block 1 (.seq (.reg 7 6 [o1 11 (.mv (.t 0)) 7,o1 12 (.mv (.t 4)) 8,o1 13 (.iaddr 4 (.t 11) (.t 12)) 9,o1 14 (.faddr 3 (.t 13)) 10,o1 15 (.load 1 .false (.t 14)) 11,o1 16 (.bin .eql (.t 15) (.k (.int .i64 0))) 12]) (.cond (.t
 16) (.reg 13 5 [o1 17 (.mv (.t 3)) 13,o1 18 (.mv (.t 4)) 14,o1 19 (.bsl 3 1 1 [.int .i64 0] [(0, .t 18)]) 15,o1 20 (.app 3 1 8 (.t 17) (.t 19)) 16,o1 3 (.mv (.t 20)) 17]) .skip))) (.reg 18 3 [o1 9 (.mv (.t 4)) 18,o1 10 (.bin .add (.t 9) (.k (.int .i64 1))) 19,o1 4 (.mv (.t 10)) 20])))))) (.seq (.reg 21 2 [o1 21 (.mv (.t 3)) 21,o1 2 (.mv (.t 21)) 22]) .ret)))
def rs21:List IRes:=[.tmp 2]
set_option maxRecDepth 100000 in
theorem comp21:Comp Tryz.prog 21 ir21 rs21 22:=⟨⟨_,_,23,Tryz.func21,rfl,by kernel_rfl,by kernel_rfl,rfl⟩⟩
theorem body21:HasBody Tryz.prog 21:=hasBody_of (by kernel_rfl)
def ir23:IC :=
 .seq (.reg 0 1 [o1 4 (.mv (.k (.bool .false))) 0]) (.seq (.seq (.reg 1 5 [o1 6 (.mv (.t 0)) 1,o1 7 (.len (.t 6)) 2,o1 8 (.mv (.t 1)) 3,o1 9 (.len (.t 8)) 4,o1 10 (.bin .neq (.t 7) (.t 9)) 5]) (.cond (.t 10) (.seq (.reg 6 1 [o1 4 (.mv (.k (.bool .false))) 6]) .ret)
 .skip)) (.seq (.seq (.reg 7 1 [o1 5 (.mv (.k (.int .i64 0))) 7]) (.block 0 (.loop (.seq (.seq (.reg 8 4 [o1 11 (.mv (.t 5)) 8,o1 12 (.mv (.t 0)) 9,o1 13 (.len (.t 12)) 10,o1 14 (.bin .lss (.t 11) (.t 13)) 11]) (.cond (.t 14) .skip (.exit 0))) (.seq (.block 1 (.seq (.draw 12 9 [] [] [o3 17 (.mv (.t 0)) 12,o3 18 (.mv (.t 5)) 13,o3 19 (.iaddr 1 (.t 17) (.t 18)) 14,o3 20 (.load 1 .false (.t 19)) 15,o3 21 (.mv (.t 1)) 16,o3 22 (.mv (.t 5)) 17,o3 23 (.iaddr 1 (.t 21) (.t 22)) 18,o3 24 (.load 1 .false (.t 23)) 19,o3 25 (.bin .neq (.t 20) (.t 24)) 20]) (.cond (.t 25) (.seq (.reg 21 1 [o1 4 (.mv (.k (.bool .false))) 21]) .ret)
 .skip))) (.reg 22 3 [o1 15 (.mv (.t 5)) 22,o1 16 (.bin .add (.t 15) (.k (.int .i64 1))) 23,o1 5 (.mv (.t 16)) 24])))))) (.seq (.reg 25 1 [o1 4 (.mv (.k (.bool .true))) 25]) .ret)))
def rs23:List IRes:=[.tmp 4]
set_option maxRecDepth 100000 in
theorem comp23:Comp Tryz.prog 23 ir23 rs23 26:=⟨⟨_,_,26,Tryz.func23,rfl,by kernel_rfl,by kernel_rfl,rfl⟩⟩
theorem body23:HasBody Tryz.prog 23:=hasBody_of (by kernel_rfl)
def ir24:IC :=
 .seq (.reg 0 1 [o1 4 (.mv (.k (.bool .false))) 0]) (.seq (.seq (.reg 1 1 [o1 5 (.mv (.k (.int .i64 0))) 1]) (.block 0 (.loop (.seq (.seq (.reg 2 4 [o1 6 (.mv (.t 5)) 2,o1 7 (.mv (.t 0)) 3,o1 8 (.len (.t 7)) 4,o1 9 (.bin .lss (.t 6) (.t 8)) 5]) (.cond (.t 9) .skip (.exit 0))) (.seq (.block 1 (.seq
 (.reg 6 6 [o1 12 (.mv (.t 0)) 6,o1 13 (.mv (.t 5)) 7,o1 14 (.iaddr 1 (.t 12) (.t 13)) 8,o1 15 (.load 1 .false (.t 14)) 9,o1 16 (.mv (.t 1)) 10,o1 17 (.bin .eql (.t 15) (.t 16)) 11]) (.cond (.t 17) (.seq (.reg 12 1 [o1 4 (.mv (.k (.bool .true))) 12]) .ret) .skip)))
 (.reg 13 3 [o1 10 (.mv (.t 5)) 13,o1 11 (.bin .add (.t 10) (.k (.int .i64 1))) 14,o1 5 (.mv (.t 11)) 15])))))) (.seq (.reg 16 1 [o1 4 (.mv (.k (.bool .false))) 16]) .ret))
def rs24:List IRes:=[.tmp 4]
set_option maxRecDepth 100000 in
theorem comp24:Comp Tryz.prog 24 ir24 rs24 18:=⟨⟨_,_,17,Tryz.func24,rfl,by kernel_rfl,by kernel_rfl,rfl⟩⟩
theorem body24:HasBody Tryz.prog 24:=hasBody_of (by kernel_rfl)
def ir25:IC :=
 .seq (.reg 0 2 [o1 2 (.box 25 (.t 0)) 0,o1 4 (.mv (.k (.bool .false))) 1]) (.seq (.seq (.reg 2 4 [o1 7 (.load 2 .true (.t 2)) 2,o1 8 (.mv (.t 1)) 3,o1 9 (.call 14 [.t 7, .t 8]) 4,o1 10 (.un .not (.t 9)) 5]) (.cond (.t 10) (.seq (.reg 6 1 [o1 4 (.mv (.k (.bool .false))) 6]) .ret) .skip)) (.seq (.reg 7 8 [o1 12 (.load 2 .true (.t 2)) 7,o1 13 (.mv (.t 1)) 8,o1 14 (.call 19 [.t 12, .t 13]) 9,o1 11 (.mv (.t 14)) 10,o1 15 (.ext (.t 11) 0) 11,o1 16 (.ext (.t 11) 1) 12,o1 5 (.mv (.t 15)) 13,o1 6 (.mv (.t 16)) 14]) (.seq (.reg 15 3 [o1 17 (.mv (.t 5)) 15,o1 18 (.bin .eql (.t 17) (.k (.int .i64 0))) 16,o1 4 (.mv (.t 18)) 17]) .ret)))
def rs25:List IRes:=[.tmp 4]
set_option maxRecDepth 100000 in
theorem comp25:Comp Tryz.prog 25 ir25 rs25 19:=⟨⟨_,_,18,Tryz.func25,rfl,by kernel_rfl,by kernel_rfl,rfl⟩⟩
theorem body25:HasBody Tryz.prog 25:=hasBody_of (by kernel_rfl)
def ir27:IC :=
 .seq (.reg 0 1 [o1 6 (.mv (.k (.bool .false))) 0]) (.seq (.reg 1 9 [o1 7 (.mv (.t 0)) 1,o1 8 (.mv (.t 1)) 2,o1 9 (.bin .geq (.t 7) (.t 8)) 3,o1 10 (.mv (.t 9)) 4,
 .mk (.some 11) (.mv (.t 0)) (.some (10, .true)) 5 .none .false [] .false, .mk (.some 12) (.mv (.t 2)) (.some (10, .true)) 6 .none .false [] .false, .mk (.some 13) (.bin .leq (.t
 11) (.t 12)) (.some (10, .true)) 7 .none .false [] .false,o1 14 (.pick (.t 10) (.t 13) (.k (.bool .false))) 8,o1 6 (.mv (.t 14)) 9]) .ret)
def rs27:List IRes:=[.tmp 6]
set_option maxRecDepth 100000 in
theorem comp27:Comp Tryz.prog 27 ir27 rs27 15:=⟨⟨_,_,10,Tryz.func27,rfl,by kernel_rfl,by kernel_rfl,rfl⟩⟩
theorem body27:HasBody Tryz.prog 27:=hasBody_of (by kernel_rfl)
def ir28:IC :=
 .seq (.reg 0 1 [o1 2 (.mv (.k (.bool .false))) 0]) (.seq (.seq (.reg 1 1 [o1 3 (.mv (.k (.int .i64 0))) 1]) (.block 0 (.loop (.seq (.seq (.reg 2 4 [o1 4 (.mv (.t 3)) 2,o1 5 (.mv (.t 0)) 3,o1 6 (.len (.t 5)) 4,o1 7 (.bin .lss (.t 4) (.t 6)) 5]) (.cond (.t 7) .skip (.exit 0))) (.seq (.block 1 (.seq
 (.reg 6 6 [o1 10 (.mv (.t 0)) 6,o1 11 (.mv (.t 3)) 7,o1 12 (.iaddr 1 (.t 10) (.t 11)) 8,o1 13 (.load 1 .false (.t 12)) 9,o1 14 (.lenS (.t 13)) 10,o1 15 (.bin .gtr (.t 14) (.k (.int .i64 40))) 11]) (.cond (.t 15) (.seq (.reg 12 1 [o1 2 (.mv (.k (.bool .false))) 12]) .ret) .skip))) (.reg 13 3 [o1 8 (.mv (.t 3)) 13,o1 9 (.bin .add (.t 8) (.k (.int .i64 1))) 14,o1 3 (.mv (.t 9)) 15])))))) (.seq (.reg 16 4 [o1 16 (.mv (.t 0)) 16,o1 17 (.len (.t 16)) 17,o1 18 (.bin .leq (.t 17) (.k (.int .i64 6))) 18,o1 2 (.mv (.t 18)) 19]) .ret))
def rs28:List IRes:=[.tmp 2]
set_option maxRecDepth 100000 in
theorem comp28:Comp Tryz.prog 28 ir28 rs28 19:=⟨⟨_,_,20,Tryz.func28,rfl,by kernel_rfl,by kernel_rfl,rfl⟩⟩
theorem body28:HasBody Tryz.prog 28:=hasBody_of (by kernel_rfl)
def ir29:IC :=
 .seq (.reg 0 1 [o1 4 (.mv (.k (.bool .false))) 0]) (.seq (.seq (.reg 1 5 [o1 6 (.mv (.t 0)) 1,o1 7 (.len (.t 6)) 2,o1 8 (.mv (.t 1)) 3,o1 9 (.len (.t 8)) 4,o1 10 (.bin .neq (.t 7) (.t 9)) 5]) (.cond (.t 10) (.seq (.reg 6 1 [o1 4 (.mv (.k (.bool .false))) 6]) .ret)
 .skip)) (.seq (.seq (.reg 7 1 [o1 5 (.mv (.k (.int .i64 0))) 7]) (.block 0 (.loop (.seq (.seq (.reg 8 4 [o1 11 (.mv (.t 5)) 8,o1 12 (.mv (.t 0)) 9,o1 13 (.len (.t 12)) 10,o1 14 (.bin .lss (.t 11) (.t 13)) 11]) (.cond (.t 14) .skip (.exit 0))) (.seq (.block 1 (.seq (.draw 12 9 [] [] [o3 17 (.mv (.t 0)) 12,o3 18 (.mv (.t 5)) 13,o3 19 (.iaddr 1 (.t 17) (.t 18)) 14,o3 20 (.load 1 .false (.t 19)) 15,o3 21 (.mv (.t 1)) 16,o3 22 (.mv (.t 5)) 17,o3 23 (.iaddr 1 (.t 21) (.t 22)) 18,o3 24 (.load 1 .false (.t 23)) 19,o3 25 (.pur (.bin .neq 9) [.t 20, .t 24]) 20]) (.cond (.t 25) (.seq (.reg 21 1 [o1 4 (.mv (.k (.bool .false))) 21]) .ret) .skip))) (.reg 22 3 [o1 15 (.mv (.t 5)) 22,o1 16 (.bin .add (.t 15) (.k (.int .i64 1))) 23,o1 5 (.mv (.t 16)) 24])))))) (.seq (.reg 25 1 [o1 4 (.mv (.k (.bool .true))) 25]) .ret)))
def rs29:List IRes:=[.tmp 4]
set_option maxRecDepth 100000 in
theorem comp29:Comp Tryz.prog 29 ir29 rs29 26:=⟨⟨_,_,26,Tryz.func29,rfl,by kernel_rfl,by kernel_rfl,rfl⟩⟩
theorem body29:HasBody Tryz.prog 29:=hasBody_of (by kernel_rfl)
def ir30:IC :=
 .seq (.reg 0 1 [o1 2 (.mv (.k (.slice .none 0 0))) 0]) (.seq (.reg 1 1 [o1 3 (.mv (.k (.slice .none 0 0))) 1]) (.seq (.seq (.reg 2 1 [o1 4 (.mv (.k (.int .i64 0))) 2]) (.block 0 (.loop (.seq (.seq (.reg 3 4 [o1 5 (.mv (.t 4)) 3,o1 6 (.mv (.t 0)) 4,o1 7 (.len (.t 6)) 5,o1 8 (.bin .lss (.t 5) (.t 7)) 6]) (.cond (.t 8) .skip (.exit 0))) (.seq (.block 1 (.reg 7 9 [o1 11 (.mv (.t 3)) 7,o1 12 (.mv (.t 0)) 8,o1 13 (.mv (.t 4)) 9,o1 14 (.iaddr 3 (.t 12) (.t 13)) 10,o1 15 (.faddr 0 (.t 14)) 11,o1 16 (.load 1 .false (.t 15)) 12, .mk (.some 17) (.bsl 9 1 1 [.string
 (ByteArray.mk (Array.mk []))] [(0, .t 16)]) .none 13 .none .false [] .false,o1 18 (.app 9 1 16 (.t 11) (.t 17)) 14,o1 3 (.mv (.t 18)) 15])) (.reg 16 3 [o1 9 (.mv (.t 4)) 16,o1 10 (.bin .add (.t 9) (.k (.int .i64 1))) 17,o1 4 (.mv (.t 10)) 18])))))) (.seq (.reg 19 2 [o1 19 (.mv (.t 3)) 19,o1 2 (.mv (.t 19)) 20]) .ret)))
def rs30:List IRes:=[.tmp 2]
set_option maxRecDepth 100000 in
theorem comp30:Comp Tryz.prog 30 ir30 rs30 20:=⟨⟨_,_,21,Tryz.func30,rfl,by kernel_rfl,by kernel_rfl,rfl⟩⟩
theorem body30:HasBody Tryz.prog 30:=hasBody_of (by kernel_rfl)
def ir32:IC :=
 .seq (.reg 0 2 [o1 1 (.box 25 (.t 0)) 0,o1 2 (.mv (.k (.bool .false))) 1]) (.seq (.seq (.reg 2 4 [o1 6 (.faddr 0 (.t 1)) 2,o1 7 (.load 1 .false (.t 6)) 3,o1 8 (.len (.t 7)) 4,o1 9 (.bin .gtr (.t 8) (.k (.int .i64 60))) 5]) (.cond (.t 9) (.seq (.reg 6 1 [o1 2 (.mv (.k (.bool .false))) 6]) .ret) .skip)) (.seq (.seq (.reg 7 1 [o1 3 (.mv (.k (.int .i64 0))) 7]) (.block 0 (.loop (.seq (.seq (.reg 8 5 [o1 10 (.mv (.t 3)) 8,o1 11 (.faddr 0 (.t 1)) 9,o1 12 (.load 1 .false (.t 11)) 10,o1 13 (.len (.t 12)) 11,o1 14 (.bin .lss (.t 10) (.t 13)) 12]) (.cond (.t 14) .skip
 (.exit 0))) (.seq (.block 1 (.seq (.reg 13 7 [o1 17 (.faddr 0 (.t 1)) 13,o1 18 (.load 1 .false (.t 17)) 14,o1 19 (.mv (.t 3)) 15,o1 20 (.iaddr 3 (.t 18) (.t 19)) 16,o1 21 (.load 3 .true (.t 20)) 17, .mk (.some 4) (.alloc 63 [.string (ByteArray.mk (Array.mk [])), .int .i64 0, .int .i64 0]) .none 18 .none .false [] .false,o2 (.store 3 (.t 4) (.t 21)) 19]) (.seq (.draw 20 32 [4] [] [o3 22 (.faddr 0 (.t 4)) 20,o3 23 (.load 1 .false (.t 22)) 21,o3 24 (.call 54 [.t 23]) 22, .mk (.some 25) (.un .not (.t 24)) .none 23 (.some [22]) .true
 [] .false, .mk (.some 26) (.mv (.t 25)) .none 24 (.some [22]) .true [] .false, .mk (.some 27) (.faddr 1 (.t 4)) (.some (26, .false)) 25 (.some [22]) .true [] .false, .mk (.some
 28) (.load 1 .false (.t 27)) (.some (26, .false)) 26 (.some [22]) .false [] .false, .mk (.some 29) (.call 27 [.t 28, .k (.int .i64 0), .k (.int .i64 36000)]) (.some (26, .false))
 27 (.some [22]) .false [] .false, .mk (.some 30) (.un .not (.t 29)) (.some (26, .false)) 28 (.some [22,27]) .true [] .false, .mk (.some 31) (.pick (.t 26) (.k (.bool .true)) (.t
 30)) .none 29 (.some [27,22]) .true [] .false, .mk (.some 32) (.mv (.t 31)) .none 30 (.some [22,27]) .true [] .false, .mk (.some 33) (.faddr 2 (.t 4)) (.some (32, .false)) 31
 (.some [27,22]) .true [] .false, .mk (.some 34) (.load 1 .false (.t 33)) (.some (32, .false)) 32 (.some [22,27]) .false [] .false, .mk (.some 35) (.call 27 [.t 34, .k (.int .i64
 0), .k (.int .i64 99)]) (.some (32, .false)) 33 (.some [27,22]) .false [] .false, .mk (.some 36) (.un .not (.t 35)) (.some (32, .false)) 34 (.some [22,27,33]) .true [] .false,
 .mk (.some 37) (.pick (.t 32) (.k (.bool .true)) (.t 36)) .none 35 (.some [33,27,22]) .true [] .false, .mk (.some 38) (.mv (.t 37)) .none 36 (.some [22,27,33]) .true []
 .false, .mk (.some 39) (.mv (.t 3)) (.some (38, .false)) 37 (.some [33,27,22]) .true [] .false, .mk (.some 40) (.bin .gtr (.t 39) (.k (.int .i64 0))) (.some (38, .false)) 38
 (.some [22,27,33]) .true [] .false, .mk (.some 41) (.mv (.t 40)) (.some (38, .false)) 39 (.some [33,27,22]) .true [] .false, .mk (.some 42) (.faddr 1 (.t 4)) (.some (41,
 .true)) 40 (.some [22,27,33]) .true [] .false, .mk (.some 43) (.load 1 .false (.t 42)) (.some (41, .true)) 41 (.some [33,27,22]) .false [] .false, .mk (.some 44) (.faddr 0 (.t
 1)) (.some (41, .true)) 42 (.some [22,27,33]) .true [] .false, .mk (.some 45) (.load 1 .false (.t 44)) (.some (41, .true)) 43 (.some [33,27,22]) .false [] .false, .mk (.some
 46) (.mv (.t 3)) (.some (41, .true)) 44 (.some [22,27,33]) .true [] .false, .mk (.some 47) (.bin .sub (.t 46) (.k (.int .i64 1))) (.some (41, .true)) 45 (.some [33,27,22])
 .true [] .false, .mk (.some 48) (.iaddr 3 (.t 45) (.t 47)) (.some (41, .true)) 46 (.some [22,27,33]) .true [] .false, .mk (.some 49) (.faddr 1 (.t 48)) (.some (41, .true)) 47
 (.some [33,27,22]) .true [] .false, .mk (.some 50) (.load 1 .false (.t 49)) (.some (41, .true)) 48 (.some [22,27,33]) .false [] .false, .mk (.some 51) (.bin .lss (.t 43) (.t
 50)) (.some (41, .true)) 49 (.some [22,27,33]) .true [] .false, .mk (.some 52) (.pick (.t 41) (.t 51) (.k (.bool .false))) (.some (38, .false)) 50 (.some [22,27,33]) .true []
 .false, .mk (.some 53) (.pick (.t 38) (.k (.bool .true)) (.t 52)) .none 51 (.some [33,27,22]) .true [] .false]) (.cond (.t 53) (.seq (.reg 52 1 [o1 2 (.mv (.k (.bool .false))) 52]) .ret) .skip)))) (.reg 53 3 [o1 15 (.mv (.t 3)) 53,o1 16 (.bin .add (.t 15) (.k (.int .i64 1))) 54,o1 3 (.mv (.t 16)) 55])))))) (.seq (.seq (.reg 56 1 [o1 5 (.mv (.k (.int .i64 0))) 56]) (.block 2 (.loop (.seq (.seq (.reg 57 5 [o1 54 (.mv (.t 5)) 57,o1 55 (.faddr 1 (.t 1)) 58,o1 56 (.load 1 .false (.t 55)) 59,o1 57 (.len (.t 56)) 60,o1 58 (.bin .lss (.t 54) (.t 57)) 61]) (.cond (.t 58) .skip (.exit 2))) (.seq (.block 3 (.seq (.draw 62 29 [] [] [o3 61 (.faddr 1 (.t 1)) 62,o3 62 (.load 1 .false (.t 61)) 63,o3 63 (.mv (.t 5)) 64,o3 64 (.iaddr 1 (.t 62) (.t 63)) 65,o3 65 (.load 1 .false (.t 64)) 66,o3 66 (.faddr 0 (.t 1)) 67,o3 67 (.load 1 .false (.t 66)) 68,o3 68 (.len (.t 67)) 69,o3 69 (.bin .sub (.t 68) (.k (.int .i64 1))) 70,o3 70 (.call 27 [.t 65, .k (.int .i64 0), .t 69]) 71, .mk (.some 71) (.un .not (.t 70)) .none 72 (.some [71]) .true [] .false, .mk (.some 72) (.mv (.t 71)) .none 73 (.some [71]) .true [] .false, .mk (.some 73) (.mv (.t 5))
 (.some (72, .false)) 74 (.some [71]) .true [] .false, .mk (.some 74) (.bin .gtr (.t 73) (.k (.int .i64 0))) (.some (72, .false)) 75 (.some [71]) .true [] .false, .mk (.some 75)
 (.mv (.t 74)) (.some (72, .false)) 76 (.some [71]) .true [] .false, .mk (.some 76) (.faddr 1 (.t 1)) (.some (75, .true)) 77 (.some [71]) .true [] .false, .mk (.some 77) (.load 1
 .false (.t 76)) (.some (75, .true)) 78 (.some [71]) .false [] .false, .mk (.some 78) (.mv (.t 5)) (.some (75, .true)) 79 (.some [71]) .true [] .false, .mk (.some 79) (.iaddr 1 (.t
 77) (.t 78)) (.some (75, .true)) 80 (.some [71]) .true [] .false, .mk (.some 80) (.load 1 .false (.t 79)) (.some (75, .true)) 81 (.some [71]) .false [] .false, .mk (.some 81)
 (.faddr 1 (.t 1)) (.some (75, .true)) 82 (.some [71]) .true [] .false, .mk (.some 82) (.load 1 .false (.t 81)) (.some (75, .true)) 83 (.some [71]) .false [] .false, .mk (.some 83)
 (.mv (.t 5)) (.some (75, .true)) 84 (.some [71]) .true [] .false, .mk (.some 84) (.bin .sub (.t 83) (.k (.int .i64 1))) (.some (75, .true)) 85 (.some [71]) .true [] .false, .mk
 (.some 85) (.iaddr 1 (.t 82) (.t 84)) (.some (75, .true)) 86 (.some [71]) .true [] .false, .mk (.some 86) (.load 1 .false (.t 85)) (.some (75, .true)) 87 (.some [71]) .false []
 .false, .mk (.some 87) (.bin .leq (.t 80) (.t 86)) (.some (75, .true)) 88 (.some [71]) .true [] .false, .mk (.some 88) (.pick (.t 75) (.t 87) (.k (.bool .false))) (.some (72,
 .false)) 89 (.some [71]) .true [] .false, .mk (.some 89) (.pick (.t 72) (.k (.bool .true)) (.t 88)) .none 90 (.some [71]) .true [] .false]) (.cond (.t 89) (.seq (.reg 91 1 [o1 2 (.mv (.k (.bool .false))) 91]) .ret) .skip))) (.reg 92 3 [o1 59 (.mv (.t 5)) 92,o1 60 (.bin .add (.t 59) (.k (.int .i64 1))) 93,o1 5 (.mv (.t 60)) 94])))))) (.seq (.reg 95 1 [o1 2 (.mv (.k (.bool .true))) 95]) .ret))))
def rs32:List IRes:=[.tmp 2]
set_option maxRecDepth 100000 in
theorem comp32:Comp Tryz.prog 32 ir32 rs32 90:=⟨⟨_,_,96,Tryz.func32,rfl,by kernel_rfl,by kernel_rfl,rfl⟩⟩
theorem body32:HasBody Tryz.prog 32:=hasBody_of (by kernel_rfl)
def ir35:IC :=
 .seq (.reg 0 1 [o1 6 (.mv (.k (.bool .false))) 0]) (.seq (.seq (.reg 1 1 [o1 7 (.mv (.k (.int .i64 0))) 1]) (.block 0 (.loop (.seq (.seq (.reg 2 4 [o1 8 (.mv (.t 7)) 2,o1 9 (.mv (.t 0)) 3,o1 10 (.len (.t 9)) 4,o1 11 (.bin .lss (.t 8) (.t 10)) 5]) (.cond (.t 11) .skip (.exit 0))) (.seq (.block 1 (.seq
 (.reg 6 15 [o1 14 (.mv (.t 0)) 6,o1 15 (.mv (.t 7)) 7,o1 16 (.iaddr 4 (.t 14) (.t 15)) 8,o1 17 (.faddr 2 (.t 16)) 9,o1 18 (.load 1 .false (.t 17)) 10,o1 19 (.mv (.t 2)) 11,o1 20 (.bin .eql (.t 18) (.t 19)) 12,o1 21 (.mv (.t 20)) 13, .mk (.some 22) (.mv (.t 0)) (.some (21, .true)) 14 .none .false [] .false, .mk (.some 23) (.mv (.t 7)) (.some (21, .true)) 15 .none .false [] .false, .mk (.some 24)
 (.iaddr 4 (.t 22) (.t 23)) (.some (21, .true)) 16 .none .false [] .false, .mk (.some 25) (.faddr 3 (.t 24)) (.some (21, .true)) 17 .none .false [] .false, .mk (.some 26) (.load 1
 .false (.t 25)) (.some (21, .true)) 18 .none .false [] .false, .mk (.some 27) (.bin .neq (.t 26) (.k (.int .i64 0))) (.some (21, .true)) 19 .none .false [] .false,o1 28 (.pick (.t 21) (.t 27) (.k (.bool .false))) 20]) (.cond (.t 28) (.seq (.reg 21 1 [o1 6 (.mv (.k (.bool .false))) 21]) .ret) .skip))) (.reg 22 3 [o1 12 (.mv (.t 7)) 22,o1 13 (.bin .add (.t 12) (.k (.int .i64 1))) 23,o1 7 (.mv (.t 13)) 24])))))) (.seq (.reg 25 4 [o1 29 (.mv (.t 1)) 25,o1 30 (.mv (.t 2)) 26,o1 31 (.call 24 [.t 29, .t 30]) 27,o1 6 (.mv (.t 31)) 28]) .ret))
def rs35:List IRes:=[.tmp 6]
set_option maxRecDepth 100000 in
theorem comp35:Comp Tryz.prog 35 ir35 rs35 32:=⟨⟨_,_,29,Tryz.func35,rfl,by kernel_rfl,by kernel_rfl,rfl⟩⟩
theorem body35:HasBody Tryz.prog 35:=hasBody_of (by kernel_rfl)
def ir36:IC :=
 .seq (.reg 0 2 [o1 2 (.box 25 (.t 0)) 0,o1 4 (.mv (.k (.bool .false))) 1]) (.seq (.seq (.reg 2 6 [o1 6 (.mv (.t 1)) 2,o1 7 (.len (.t 6)) 3,o1 8 (.faddr 0 (.t 2)) 4,
 o1 9 (.load 1 .false (.t 8)) 5,o1 10 (.len (.t 9)) 6,o1 11 (.bin .neq (.t 7) (.t 10)) 7]) (.cond (.t 11) (.seq (.reg 8 1 [o1 4 (.mv (.k (.bool .false))) 8]) .ret) .skip)) (.seq (.seq (.reg 9 1 [o1 5 (.mv (.k (.int .i64 0))) 9]) (.block 0 (.loop (.seq (.seq (.reg 10 4 [o1 12 (.mv (.t 5)) 10,o1 13 (.mv (.t 1)) 11,o1 14 (.len (.t 13)) 12,o1 15 (.bin .lss (.t 12) (.t 14)) 13]) (.cond (.t 15) .skip (.exit 0))) (.seq (.block 1 (.seq (.draw 14 13 [] [] [o3 18 (.mv (.t 1)) 14,o3 19 (.mv (.t 5)) 15,o3 20 (.iaddr 3 (.t 18) (.t 19)) 16,o3 21 (.load 3 .true (.t 20)) 17,o3 22 (.faddr 0 (.t 2)) 18,o3 23 (.load 1 .false (.t 22)) 19,o3 24 (.mv (.t 5)) 20,o3 25 (.iaddr 3 (.t 23) (.t 24)) 21,o3 26 (.faddr 0 (.t 25)) 22,o3 27 (.load 1 .false (.t 26)) 23,o3 28 (.mv (.t 5)) 24, .mk (.some 29)
 (.bld [(0,1),(1,1),(2,1)] [.string (ByteArray.mk (Array.mk [])), .int .i64 0, .int .i64 0] [(0, .t 27),(1, .t 28)]) .none 25 (.some []) .true [] .false,o3 30 (.pur (.bin .neq 57) [.t 21, .t 29]) 26]) (.cond (.t 30) (.seq (.reg 27 1 [o1 4 (.mv (.k (.bool .false))) 27])
 .ret) .skip))) (.reg 28 3 [o1 16 (.mv (.t 5)) 28,o1 17 (.bin .add (.t 16) (.k (.int .i64 1))) 29,o1 5 (.mv (.t 17)) 30])))))) (.seq (.reg 31 1 [o1 4 (.mv (.k (.bool .true))) 31]) .ret)))
def rs36:List IRes:=[.tmp 4]
set_option maxRecDepth 100000 in
theorem comp36:Comp Tryz.prog 36 ir36 rs36 31:=⟨⟨_,_,32,Tryz.func36,rfl,by kernel_rfl,by kernel_rfl,rfl⟩⟩
theorem body36:HasBody Tryz.prog 36:=hasBody_of (by kernel_rfl)
def ir38:IC :=
 .seq (.reg 0 1 [o1 2 (.mv (.k (.slice .none 0 0))) 0]) (.seq (.reg 1 1 [o1 3 (.mv (.k (.slice .none 0 0))) 1]) (.seq (.seq (.reg 2 1 [o1 4 (.mv (.k (.int .i64 0))) 2]) (.block 0 (.loop (.seq (.seq (.reg 3 4 [o1 5 (.mv (.t 4)) 3,o1 6 (.mv (.t 0)) 4,o1 7 (.len (.t 6)) 5,o1 8 (.bin .lss (.t 5) (.t 7)) 6]) (.cond (.t 8) .skip (.exit 0))) (.seq (.block 1 (.draw 7 17 [] [] [o3 11 (.mv (.t 3)) 7,o3 12 (.mv (.t 0)) 8,o3 13 (.mv (.t 4)) 9,o3 14 (.iaddr 2 (.t 12) (.t 13)) 10,o3 15 (.faddr 0 (.t 14)) 11,o3 16 (.load 1 .false (.t 15)) 12,o3 17 (.call 46 [.t 16]) 13,o3 18 (.mv (.t 0)) 14,o3 19 (.mv (.t 4)) 15,o3 20 (.iaddr 2 (.t 18) (.t 19)) 16,o3 21 (.faddr 1 (.t 20)) 17,o3 22 (.load 1 .false (.t 21)) 18, .mk (.some 23) (.call 46 [.t 22]) .none 19 (.some [13]) .false [] .false, .mk (.some 24) (.bld [(0,1),(1,1)] [.slice
 .none 0 0, .slice .none 0 0] [(0, .t 17),(1, .t 23)]) .none 20 (.some [19,13]) .true [] .false, .mk (.some 25) (.bsl 119 2 1 [.slice .none 0 0, .slice .none 0 0] [(0, .t 24)])
 .none 21 (.some [13,19]) .true [] .false, .mk (.some 26) (.app 119 2 48 (.t 11) (.t 25)) .none 22 (.some [19,13,21]) .false [] .false, .mk (.some 3) (.mv (.t 26)) .none 23
 (.some [21,13,19,22]) .true [] .false])) (.reg 24 3 [o1 9 (.mv (.t 4)) 24,o1 10 (.bin .add (.t 9) (.k (.int .i64 1))) 25,o1 4 (.mv (.t 10)) 26])))))) (.seq (.reg 27 2 [o1 27 (.mv (.t 3)) 27,o1 2 (.mv (.t 27)) 28]) .ret)))
def rs38:List IRes:=[.tmp 2]
set_option maxRecDepth 100000 in
theorem comp38:Comp Tryz.prog 38 ir38 rs38 28:=⟨⟨_,_,29,Tryz.func38,rfl,by kernel_rfl,by kernel_rfl,rfl⟩⟩
theorem body38:HasBody Tryz.prog 38:=hasBody_of (by kernel_rfl)
def ir39:IC :=
 .seq (.reg 0 1 [o1 2 (.mv (.k (.bool .false))) 0]) (.seq (.seq (.reg 1 1 [o1 3 (.mv (.k (.int .i64 0))) 1]) (.block 0 (.loop (.seq (.seq (.reg 2 4 [o1 4 (.mv (.t 3)) 2,o1 5 (.mv (.t 0)) 3,o1 6 (.len (.t 5)) 4,o1 7 (.bin .lss (.t 4) (.t 6)) 5]) (.cond (.t 7) .skip (.exit 0))) (.seq (.block 1 (.seq
 (.reg 6 16 [o1 10 (.mv (.t 0)) 6,o1 11 (.mv (.t 3)) 7,o1 12 (.iaddr 2 (.t 10) (.t 11)) 8,o1 13 (.faddr 0 (.t 12)) 9,o1 14 (.load 1 .false (.t 13)) 10,o1 15 (.call 66 [.t 14, .k (.int .i64 1), .k (.int .i64 4)]) 11,o1 16 (.un .not (.t 15)) 12,o1 17 (.mv (.t 16)) 13, .mk (.some 18) (.mv (.t 0)) (.some (17, .false)) 14 .none .false [] .false, .mk (.some 19) (.mv (.t 3)) (.some (17, .false)) 15 .none .false
 [] .false, .mk (.some 20) (.iaddr 2 (.t 18) (.t 19)) (.some (17, .false)) 16 .none .false [] .false, .mk (.some 21) (.faddr 1 (.t 20)) (.some (17, .false)) 17 .none .false []
 .false, .mk (.some 22) (.load 1 .false (.t 21)) (.some (17, .false)) 18 .none .false [] .false, .mk (.some 23) (.call 66 [.t 22, .k (.int .i64 0), .k (.int .i64 4)]) (.some (17,
 .false)) 19 .none .false [] .false, .mk (.some 24) (.un .not (.t 23)) (.some (17, .false)) 20 .none .false [] .false,o1 25 (.pick (.t 17) (.k (.bool .true)) (.t 24)) 21]) (.cond (.t 25) (.seq (.reg 22 1 [o1 2 (.mv (.k (.bool .false))) 22]) .ret) .skip))) (.reg 23 3 [o1 8 (.mv (.t 3)) 23,o1 9 (.bin .add (.t 8) (.k (.int .i64 1))) 24,o1 3 (.mv (.t 9)) 25])))))) (.seq (.reg 26 4 [o1 26 (.mv (.t 0)) 26,o1 27 (.len (.t 26)) 27,o1 28 (.bin .leq (.t 27) (.k (.int .i64 10))) 28,o1 2 (.mv (.t 28)) 29]) .ret))
def rs39:List IRes:=[.tmp 2]
set_option maxRecDepth 100000 in
theorem comp39:Comp Tryz.prog 39 ir39 rs39 29:=⟨⟨_,_,30,Tryz.func39,rfl,by kernel_rfl,by kernel_rfl,rfl⟩⟩
theorem body39:HasBody Tryz.prog 39:=hasBody_of (by kernel_rfl)
def ir40:IC :=
 .seq (.reg 0 3 [o1 2 (.box 25 (.t 0)) 0,o1 4 (.mv (.k (.slice .none 0 0))) 1,o1 5 (.mv (.k (.bool .false))) 2]) (.seq (.reg 3 3 [o1 11 (.load 2 .true (.t 2)) 3,o1 12 (.call 47 [.t 11]) 4,o1 6 (.mv (.t 12)) 5]) (.seq (.reg 6 1 [o1 7 (.mv (.k (.slice .none 0 0))) 6])
 (.seq (.seq (.reg 7 1 [o1 8 (.mv (.k (.int .i64 0))) 7]) (.block 0 (.loop (.seq (.seq (.reg 8 4 [o1 13 (.mv (.t 8)) 8,o1 14 (.mv (.t 1)) 9,o1 15 (.len (.t 14)) 10,o1 16 (.bin .lss (.t 13) (.t 15)) 11]) (.cond (.t 16) .skip (.exit 0))) (.seq (.block 1 (.seq (.reg 12 1 [o1 9 (.mv (.k (.int .i64 0))) 12])
 (.block 2 (.loop (.seq (.seq (.reg 13 5 [o1 19 (.mv (.t 9)) 13,o1 20 (.mv (.t 6)) 14,o1 21 (.call 21 [.t 20]) 15,o1 22 (.len (.t 21)) 16,o1 23 (.bin .lss (.t 19) (.t 22)) 17]) (.cond (.t 23) .skip (.exit 2))) (.block 3 (.seq (.seq (.draw 18 10 [9,6,2] [] [o3 24 (.load 2 .true (.t 2)) 18,o3 25 (.mv (.t 6)) 19,o3 26 (.mv (.t 1)) 20,o3 27 (.mv (.t 8)) 21,o3 28 (.iaddr 2 (.t 26) (.t 27)) 22,o3 29 (.faddr 0 (.t 28)) 23,o3 30 (.load 1 .false (.t 29)) 24,o3 31 (.mv (.t 9)) 25,o3 32 (.call 67 [.t 24, .t 25, .t 30, .t 31]) 26, .mk (.some 33) (.un .not (.t 32)) .none 27 (.some [26]) .true [] .false]) (.cond (.t 33) (.seq (.reg 28 3 [o1 34 (.mv (.t 9)) 28,o1 35 (.bin .add (.t 34) (.k (.int .i64 1))) 29,o1 9 (.mv (.t 35)) 30])
 (.exit 3)) .skip)) (.seq (.draw 31 15 [] [] [o3 36 (.mv (.t 9)) 31,o3 37 (.mv (.t 1)) 32,o3 38 (.mv (.t 8)) 33,o3 39 (.iaddr 2 (.t 37) (.t 38)) 34,o3 40 (.faddr 0 (.t 39)) 35,o3 41 (.load 1 .false (.t 40)) 36,o3 42 (.len (.t 41)) 37,o3 43 (.mv (.t 1)) 38,o3 44 (.mv (.t 8)) 39,o3 45 (.iaddr 2 (.t 43) (.t 44)) 40,o3 46 (.faddr 1 (.t 45)) 41,o3 47 (.load 1 .false (.t 46)) 42,o3 48 (.bld [(0,1),(1,1),(2,1),(3,1)] [.int .i64 0, .int .i64 0, .int .i64 0, .slice .none 0 0] [(1, .t 36),(2, .t 42),(3, .t 47)]) 43,o3 10 (.alloc 61 [.int .i64 0, .int .i64 0, .int .i64 0, .slice .none 0 0]) 44, .mk .none (.store 4 (.t 10) (.t 48)) .none 45
 (.some [44]) .true [] .false]) (.seq (.reg 46 5 [o1 49 (.mv (.t 7)) 46,o1 50 (.load 4 .true (.t 10)) 47,o1 51 (.bsl 61 4 1 [.int .i64 0, .int .i64 0, .int .i64 0, .slice .none 0 0] [(0, .t 50)]) 48,o1 52 (.app 61 4 48 (.t 49) (.t 51)) 49,o1 7 (.mv (.t 52)) 50]) (.seq (.seq (.reg 51 3 [o1 53 (.mv (.t 7)) 51,o1 54 (.len (.t 53)) 52,o1 55 (.bin .gtr (.t 54) (.k (.int .i64 80))) 53]) (.cond (.t 55)
 (.seq (.reg 54 2 [o1 4 (.mv (.k (.slice .none 0 0))) 54,o1 5 (.mv (.k (.bool .false))) 55]) .ret)
 .skip)) (.seq (.reg 56 10 [o1 57 (.load 2 .true (.t 2)) 56,o1 58 (.mv (.t 6)) 57,o1 59 (.load 4 .true (.t 10)) 58,o1 60 (.mv (.t 7)) 59,o1 61 (.len (.t 60)) 60,o1 62 (.call 50 [.t 57, .t 58, .t 59, .t 61]) 61,o1 56 (.mv (.t 62)) 62,o1 63 (.ext (.t 56) 0) 63,o1 64 (.ext (.t 56) 1) 64,o1 6 (.mv (.t 63)) 65]) (.reg 66
 9 [o1 65 (.mv (.t 9)) 66,o1 66 (.mv (.t 1)) 67,o1 67 (.mv (.t 8)) 68,o1 68 (.iaddr 2 (.t 66) (.t 67)) 69,o1 69 (.faddr 1 (.t 68)) 70,o1 70 (.load 1 .false (.t 69)) 71,o1 71 (.len (.t 70)) 72,o1 72 (.bin .add (.t 65) (.t 71)) 73,o1 9 (.mv (.t 72)) 74])))))))))))) (.reg 75 3 [o1 17 (.mv (.t 8)) 75,o1 18 (.bin .add (.t 17) (.k (.int .i64 1))) 76,o1 8 (.mv (.t 18)) 77])))))) (.seq (.reg 78 3 [o1 73 (.mv (.t 7)) 78,o1 4 (.mv (.t 73)) 79,o1 5 (.mv (.k (.bool .true))) 80]) .ret))))
def rs40:List IRes:=[.tmp 4, .tmp 5]
set_option maxRecDepth 100000 in
theorem comp40:Comp Tryz.prog 40 ir40 rs40 74:=⟨⟨_,_,81,Tryz.func40,rfl,by kernel_rfl,by kernel_rfl,rfl⟩⟩
theorem body40:HasBody Tryz.prog 40:=hasBody_of (by kernel_rfl)
theorem body41:HasBody Tryz.prog 41:=hasBody_of (by kernel_rfl)
def ir46:IC :=
 .seq (.reg 0 1 [o1 2 (.mv (.k (.slice .none 0 0))) 0]) (.seq (.reg 1 3 [o1 3 (.mv (.t 0)) 1,o1 4 (.app 9 1 16 (.k (.slice .none 0 0)) (.t 3)) 2,o1 2 (.mv (.t 4)) 3]) .ret)
def rs46:List IRes:=[.tmp 2]
set_option maxRecDepth 100000 in
theorem comp46:Comp Tryz.prog 46 ir46 rs46 5:=⟨⟨_,_,4,Tryz.func46,rfl,by kernel_rfl,by kernel_rfl,rfl⟩⟩
theorem body46:HasBody Tryz.prog 46:=hasBody_of (by kernel_rfl)
def ir47:IC :=
 .seq (.reg 0 2 [o1 1 (.box 25 (.t 0)) 0,o1 2 (.mv (.k (.slice .none 0 0))) 1]) (.seq (.reg 2 1 [o1 3 (.mv (.k (.slice .none 0 0))) 2]) (.seq (.seq (.reg 3 1 [o1 4 (.mv (.k (.int .i64 0))) 3]) (.block 0
 (.loop (.seq (.seq (.reg 4 5 [o1 5 (.mv (.t 4)) 4,o1 6 (.faddr 0 (.t 1)) 5,o1 7 (.load 1 .false (.t 6)) 6,o1 8 (.len (.t 7)) 7,o1 9 (.bin .lss (.t 5) (.t 8)) 8])
 (.cond (.t 9) .skip (.exit 0))) (.seq (.block 1 (.reg 9 12 [o1 12 (.mv (.t 3)) 9,o1 13 (.faddr 0 (.t 1)) 10,o1 14 (.load 1 .false (.t 13)) 11,o1 15 (.mv (.t 4)) 12,o1 16 (.iaddr 3 (.t 14) (.t 15)) 13,o1 17 (.faddr 0 (.t 16)) 14,o1 18 (.load 1 .false (.t 17)) 15,
 o1 19 (.mv (.t 4)) 16, .mk (.some 20) (.bld [(0,1),(1,1),(2,1),(3,1)] [.string (ByteArray.mk (Array.mk [])), .int .i64 0, .int .i64 0,
 .int .i64 0] [(0, .t 18),(1, .t 19)]) .none 17 .none .false [] .false, .mk (.some 21) (.bsl 49 4 1 [.string (ByteArray.mk (Array.mk [])), .int .i64 0, .int .i64 0, .int .i64 0]
 [(0, .t 20)]) .none 18 .none .false [] .false,o1 22 (.app 49 4 40 (.t 12) (.t 21)) 19,o1 3 (.mv (.t 22)) 20])) (.reg 21 3 [o1 10 (.mv (.t 4)) 21,o1 11 (.bin .add (.t 10) (.k (.int .i64 1))) 22,o1 4 (.mv (.t 11)) 23])))))) (.seq (.reg 24 2 [o1 23 (.mv (.t 3)) 24,o1 2 (.mv (.t 23)) 25]) .ret)))
def rs47:List IRes:=[.tmp 2]
set_option maxRecDepth 100000 in
theorem comp47:Comp Tryz.prog 47 ir47 rs47 24:=⟨⟨_,_,26,Tryz.func47,rfl,by kernel_rfl,by kernel_rfl,rfl⟩⟩
theorem body47:HasBody Tryz.prog 47:=hasBody_of (by kernel_rfl)
def ir48:IC :=
 .seq (.reg 0 1 [o1 4 (.mv (.k (.slice .none 0 0))) 0]) (.seq (.reg 1 1 [o1 5 (.mv (.k (.slice .none 0 0))) 1]) (.seq (.seq (.reg 2 1 [o1 6 (.mv (.k (.int .i64 0))) 2]) (.block 0 (.loop (.seq (.seq (.reg 3 4 [o1 8 (.mv (.t 6)) 3,o1 9 (.mv (.t 0)) 4,o1 10 (.len (.t 9)) 5,o1 11 (.bin .lss (.t 8) (.t 10)) 6]) (.cond (.t 11) .skip (.exit 0))) (.seq (.block 1 (.seq (.reg 7 6 [o1 14 (.mv (.t 0)) 7,o1 15 (.mv (.t 6)) 8,o1 16 (.iaddr 4 (.t 14) (.t 15)) 9,o1 17 (.load 4 .true (.t 16)) 10, .mk (.some 7) (.alloc 49 [.string (ByteArray.mk (Array.mk [])), .int .i64 0, .int .i64 0, .int .i64 0]) .none 11 .none .false [] .false,o2 (.store 4 (.t 7) (.t 17)) 12]) (.seq (.seq (.reg 13 4 [o1 18 (.faddr 2 (.t 7)) 13,o1 19 (.load 1 .false (.t 18)) 14,o1 20 (.mv (.t 1)) 15,o1 21 (.bin .eql (.t 19) (.t 20)) 16]) (.cond
 (.t 21) (.exit 1) .skip)) (.seq (.seq (.reg 17 4 [o1 22 (.faddr 3 (.t 7)) 17,o1 23 (.load 1 .false (.t 22)) 18,o1 24 (.mv (.t 1)) 19,o1 25 (.bin .eql (.t 23) (.t 24)) 20]) (.cond (.t 25) (.reg 21 2 [o1 26 (.faddr 3 (.t 7)) 21,o2 (.store 1 (.t 26) (.k (.int .i64 0))) 22]) .skip)) (.reg 23 5 [o1 27 (.mv (.t 5)) 23,o1 28 (.load 4 .true (.t 7)) 24, .mk (.some 29) (.bsl 49 4 1 [.string (ByteArray.mk (Array.mk
 [])), .int .i64 0, .int .i64 0, .int .i64 0] [(0, .t 28)]) .none 25 .none .false [] .false,o1 30 (.app 49 4 40 (.t 27) (.t 29)) 26,o1 5 (.mv (.t 30)) 27]))))) (.reg 28 3 [o1 12 (.mv (.t 6)) 28,o1 13 (.bin .add (.t 12) (.k (.int .i64 1))) 29,o1 6 (.mv (.t 13)) 30])))))) (.seq (.reg 31 2 [o1 31 (.mv (.t 5)) 31,o1 4 (.mv (.t 31)) 32]) .ret)))
def rs48:List IRes:=[.tmp 4]
set_option maxRecDepth 100000 in
theorem comp48:Comp Tryz.prog 48 ir48 rs48 32:=⟨⟨_,_,33,Tryz.func48,rfl,by kernel_rfl,by kernel_rfl,rfl⟩⟩
theorem body48:HasBody Tryz.prog 48:=hasBody_of (by kernel_rfl)
def ir49:IC :=
 .seq (.reg 0 1 [o1 4 (.mv (.k (.slice .none 0 0))) 0]) (.seq (.reg 1 1 [o1 5 (.mv (.k (.slice .none 0 0))) 1]) (.seq (.seq (.reg 2 1 [o1 6 (.mv (.k (.int .i64 0))) 2]) (.block 0 (.loop (.seq (.seq (.reg 3 4 [o1 7 (.mv (.t 6)) 3,o1 8 (.mv (.t 0)) 4,o1 9 (.len (.t 8)) 5,o1 10 (.bin .lss (.t 7) (.t 9)) 6]) (.cond (.t 10) .skip (.exit 0))) (.seq (.block 1 (.seq (.reg 7 6 [o1 13 (.mv (.t 0)) 7,o1 14 (.mv (.t 6)) 8,o1 15 (.iaddr 1 (.t 13) (.t 14)) 9,o1 16 (.load 1 .false (.t 15)) 10,o1 17 (.mv (.t 1)) 11,o1 18 (.bin .neq (.t 16) (.t 17)) 12]) (.cond (.t 18) (.reg 13
 8 [o1 19 (.mv (.t 5)) 13,o1 20 (.mv (.t 0)) 14,o1 21 (.mv (.t 6)) 15,o1 22 (.iaddr 1 (.t 20) (.t 21)) 16,o1 23 (.load 1 .false (.t 22)) 17,o1 24 (.bsl 3 1 1 [.int .i64 0] [(0, .t 23)]) 18,o1 25 (.app 3 1 8 (.t 19) (.t 24)) 19,o1 5 (.mv (.t 25)) 20]) .skip))) (.reg 21 3 [o1 11 (.mv (.t 6)) 21,o1 12 (.bin .add (.t 11) (.k (.int .i64 1))) 22,o1 6 (.mv (.t 12)) 23])))))) (.seq (.reg 24 2 [o1 26 (.mv (.t 5)) 24,o1 4 (.mv (.t 26)) 25]) .ret)))
def rs49:List IRes:=[.tmp 4]
set_option maxRecDepth 100000 in
theorem comp49:Comp Tryz.prog 49 ir49 rs49 27:=⟨⟨_,_,26,Tryz.func49,rfl,by kernel_rfl,by kernel_rfl,rfl⟩⟩
theorem body49:HasBody Tryz.prog 49:=hasBody_of (by kernel_rfl)
def ir50:IC :=
 .seq (.reg 0 4 [o1 4 (.box 25 (.t 0)) 0,o1 6 (.box 61 (.t 2)) 1,o1 8 (.mv (.k (.slice .none 0 0))) 2,o1 9 (.mv (.k (.bool .false))) 3]) (.seq (.reg 4 3 [o1 16 (.mv (.t 1)) 4,o1 17 (.call 21 [.t 16]) 5,o1 10 (.mv (.t 17)) 6]) (.seq (.seq (.reg 7 40 [o1 18 (.faddr 1 (.t 6)) 7,o1 19 (.load 1 .false (.t 18)) 8,o1 20 (.bin .lss (.t 19) (.k (.int .i64 0))) 9,o1 21 (.mv (.t 20)) 10, .mk (.some 22) (.faddr 2 (.t 6)) (.some (21, .false)) 11 .none .false [] .false, .mk
 (.some 23) (.load 1 .false (.t 22)) (.some (21, .false)) 12 .none .false [] .false, .mk (.some 24) (.bin .lss (.t 23) (.k (.int .i64 0))) (.some (21, .false)) 13 .none .false []
 .false,o1 25 (.pick (.t 21) (.k (.bool .true)) (.t 24)) 14,o1 26 (.mv (.t 25)) 15, .mk (.some 27)
 (.faddr 2 (.t 6)) (.some (26, .false)) 16 .none .false [] .false, .mk (.some 28) (.load 1 .false (.t 27)) (.some (26, .false)) 17 .none .false [] .false, .mk (.some 29) (.bin .gtr
 (.t 28) (.k (.int .i64 4))) (.some (26, .false)) 18 .none .false [] .false,o1 30 (.pick (.t 26) (.k (.bool .true)) (.t 29)) 19,o1 31 (.mv (.t 30)) 20, .mk (.some 32) (.faddr 1 (.t 6)) (.some (31, .false)) 21 .none .false [] .false, .mk (.some 33) (.load 1 .false (.t 32)) (.some
 (31, .false)) 22 .none .false [] .false, .mk (.some 34) (.mv (.t 10)) (.some (31, .false)) 23 .none .false [] .false, .mk (.some 35) (.len (.t 34)) (.some (31, .false)) 24 .none
 .false [] .false, .mk (.some 36) (.faddr 2 (.t 6)) (.some (31, .false)) 25 .none .false [] .false, .mk (.some 37) (.load 1 .false (.t 36)) (.some (31, .false)) 26 .none .false []
 .false, .mk (.some 38) (.bin .sub (.t 35) (.t 37)) (.some (31, .false)) 27 .none .false [] .false, .mk (.some 39) (.bin .gtr (.t 33) (.t 38)) (.some (31, .false)) 28 .none .false
 [] .false,o1 40 (.pick (.t 31) (.k (.bool .true)) (.t 39)) 29,o1 41 (.mv (.t 40)) 30, .mk (.some 42)
 (.faddr 3 (.t 6)) (.some (41, .false)) 31 .none .false [] .false, .mk (.some 43) (.load 1 .false (.t 42)) (.some (41, .false)) 32 .none .false [] .false, .mk (.some 44) (.call 66
 [.t 43, .k (.int .i64 0), .k (.int .i64 4)]) (.some (41, .false)) 33 .none .false [] .false, .mk (.some 45) (.un .not (.t 44)) (.some (41, .false)) 34 .none .false [] .false,o1 46 (.pick (.t 41) (.k (.bool .true)) (.t 45)) 35,o1 47 (.mv (.t 46)) 36, .mk (.some 48) (.faddr 2 (.t
 6)) (.some (47, .false)) 37 .none .false [] .false, .mk (.some 49) (.load 1 .false (.t 48)) (.some (47, .false)) 38 .none .false [] .false, .mk (.some 50) (.bin .eql (.t 49) (.k
 (.int .i64 0))) (.some (47, .false)) 39 .none .false [] .false, .mk (.some 51) (.mv (.t 50)) (.some (47, .false)) 40 .none .false [] .false, .mk (.some 52) (.faddr 3 (.t 6))
 (.some (51, .true)) 41 .none .false [] .false, .mk (.some 53) (.load 1 .false (.t 52)) (.some (51, .true)) 42 .none .false [] .false, .mk (.some 54) (.len (.t 53)) (.some (51,
 .true)) 43 .none .false [] .false, .mk (.some 55) (.bin .eql (.t 54) (.k (.int .i64 0))) (.some (51, .true)) 44 .none .false [] .false, .mk (.some 56) (.pick (.t 51) (.t 55) (.k
 (.bool .false))) (.some (47, .false)) 45 .none .false [] .false,o1 57 (.pick (.t 47) (.k (.bool .true)) (.t 56)) 46]) (.cond (.t 57) (.seq
 (.reg 47 3 [o1 58 (.mv (.t 1)) 47,o1 8 (.mv (.t 58)) 48,o1 9 (.mv (.k (.bool .false))) 49]) .ret) .skip)) (.seq (.reg 50 4 [o1 59 (.bsl 49 4 0 [] []) 50,o1 60 (.mv (.t 1)) 51,o1 61 (.app 49 4 40 (.t 59) (.t 60)) 52,o1 11 (.mv (.t 61)) 53]) (.seq (.reg 54 1 [o1 12 (.mv (.k (.int .i64 0))) 54]) (.seq (.seq (.reg 55 3 [o1 62 (.faddr 2 (.t 6)) 55,o1 63 (.load 1 .false (.t 62)) 56,o1 64 (.bin .gtr (.t 63) (.k (.int .i64 0))) 57]) (.cond (.t 64) (.reg 58 6 [o1 65 (.mv (.t 10)) 58,o1 66 (.faddr 1 (.t 6)) 59,o1 67 (.load 1 .false (.t 66)) 60,o1 68 (.iaddr 1 (.t 65) (.t 67)) 61,o1 69 (.load 1 .false (.t 68)) 62,o1 12 (.mv (.t 69)) 63]) (.seq (.reg 64 3 [o1 70 (.faddr 1 (.t 6)) 64,o1 71 (.load 1 .false (.t 70)) 65,o1 72 (.bin .gtr (.t 71) (.k (.int .i64 0))) 66]) (.cond (.t 72) (.reg 67 8 [o1 73 (.mv (.t 10)) 67,o1 74 (.faddr 1 (.t 6)) 68,o1 75 (.load 1 .false (.t 74)) 69,o1 76 (.bin .sub (.t 75) (.k (.int .i64 1))) 70,o1 77 (.iaddr 1 (.t 73) (.t 76)) 71,o1 78 (.load 1 .false (.t 77)) 72,o1 79 (.bin .add (.t 78) (.k (.int .i64 1))) 73,o1 12 (.mv (.t 79)) 74]) .skip)))) (.seq (.seq (.reg 75 1 [o1 13 (.mv (.k (.int .i64 0))) 75]) (.block 0 (.loop (.seq (.seq (.reg 76 4 [o1 80 (.mv (.t 13)) 76,o1 81 (.faddr 2 (.t 6)) 77,o1 82 (.load 1 .false (.t 81)) 78,o1 83 (.bin .lss (.t 80) (.t 82)) 79]) (.cond (.t 83) .skip (.exit 0))) (.seq (.block 1 (.seq (.seq (.draw 80 12 [4] []
 [o3 86 (.load 2 .true (.t 4)) 80,o3 87 (.mv (.t 11)) 81,o3 88 (.mv (.t 10)) 82,o3 89 (.faddr 1 (.t 6)) 83,o3 90 (.load 1 .false (.t 89)) 84,o3 91 (.mv (.t 13)) 85,o3 92 (.bin .add (.t 90) (.t 91)) 86,o3 93 (.iaddr 1 (.t 88) (.t 92)) 87,o3 94 (.load 1 .false (.t 93)) 88,o3 95 (.iaddr 4 (.t 87) (.t 94)) 89,o3 96 (.load 4 .true (.t 95)) 90,o3 97 (.call 74 [.t 86, .t 96]) 91])
 (.cond (.t 97) (.seq (.reg 92 3 [o1 98 (.mv (.t 1)) 92,o1 8 (.mv (.t 98)) 93,o1 9 (.mv (.k (.bool .false))) 94]) .ret) .skip)) (.reg 95 12 [o1 99 (.mv (.t 11)) 95,o1 100 (.mv (.t 10)) 96,o1 101 (.faddr 1 (.t 6)) 97,o1 102 (.load 1 .false (.t 101)) 98,o1 103 (.mv (.t 13)) 99,o1 104 (.bin .add (.t 102) (.t 103)) 100,o1 105 (.iaddr 1 (.t 100) (.t 104)) 101,o1 106 (.load 1 .false (.t 105)) 102,o1 107 (.mv (.t 3)) 103,o1 108 (.iaddr 4 (.t 99) (.t 106)) 104,o1 109 (.faddr 3 (.t 108)) 105,o2 (.store 1 (.t 109) (.t 107)) 106]))) (.reg 107 3 [o1 84 (.mv (.t 13)) 107,o1 85 (.bin .add (.t 84) (.k (.int .i64 1))) 108,o1 13 (.mv (.t 85)) 109])))))) (.seq (.reg 110 1 [o1 14 (.mv (.k (.slice .none 0 0))) 110]) (.seq (.seq (.reg 111 1 [o1 15 (.mv (.k (.int .i64 0))) 111]) (.block 2 (.loop (.seq (.seq (.reg 112 5 [o1 110 (.mv (.t 15)) 112,o1 111 (.faddr 3 (.t 6)) 113,o1 112 (.load 1 .false (.t 111)) 114,o1 113 (.len (.t 112)) 115,o1 114 (.bin .lss (.t 110) (.t 113)) 116]) (.cond (.t
 114) .skip (.exit 2))) (.seq (.block 3 (.reg 117 11 [o1 117 (.mv (.t 14)) 117,o1 118 (.faddr 3 (.t 6)) 118,o1 119 (.load 1 .false (.t 118)) 119,o1 120 (.mv (.t 15)) 120,o1 121 (.iaddr 1 (.t 119) (.t 120)) 121,o1 122 (.load 1 .false (.t 121)) 122,o1 123 (.mv (.t 3)) 123, .mk (.some 124) (.bld [(0,1),(1,1),(2,1),(3,1)] [.string (ByteArray.mk (Array.mk [])), .int .i64 0, .int .i64 0, .int .i64 0] [(0, .t 122),(1, .k (.int .i64
 (-1))),(2, .t 123)]) .none 124 .none .false [] .false, .mk (.some 125) (.bsl 49 4 1 [.string (ByteArray.mk (Array.mk [])), .int .i64 0, .int .i64 0, .int .i64 0] [(0, .t 124)])
 .none 125 .none .false [] .false,o1 126 (.app 49 4 40 (.t 117) (.t 125)) 126,o1 14 (.mv (.t 126)) 127])) (.reg 128 3 [o1 115 (.mv (.t 15)) 128,o1 116 (.bin .add (.t 115) (.k (.int .i64 1))) 129,
 o1 15 (.mv (.t 116)) 130])))))) (.seq (.drawd 131 13 [11] [] [] [.none, .none, .none, .some [11], .some [], .none, .some [14], .none, .none,
 .some [11], .some [14], .none, .none] [(0,o3 127 (.bsl 49 4 0 [] []) 131),(1,o3 128 (.mv (.t 11)) 132),(2,o3 129 (.mv (.t 12)) 133),(3, .mk (.some 130) (.slc 4 (.t 128) .none (.some (.t 129)) .none) .none 134 (.some []) .true
 [2,1] .false),(4, .mk (.some 131) (.app 49 4 40 (.t 127) (.t 130)) .none 135 (.some [131]) .true [1,2,3,0] .false),(5,o3 132 (.mv (.t 14)) 136),(6, .mk (.some 133) (.app 49 4 40 (.t 131) (.t 132)) .none 137 (.some [131,135]) .true [5,0,3,2,1,4] .false),(7,o3 134 (.mv (.t 11)) 138),(8,o3 135 (.mv (.t 12)) 139),(9, .mk (.some 136) (.slc 4 (.t 134) (.some (.t 135)) .none .none) .none 140
 (.some []) .true [8,7] .false),(10, .mk (.some 137) (.app 49 4 40 (.t 133) (.t 136)) .none 141 (.some [135,131,137]) .true [7,8,9,4,1,2,3,0,5,6] .false),(11, .mk
 (.some 8) (.mv (.t 137)) .none 142 (.some [137,131,135,141]) .true [6,5,0,3,2,1,4,9,8,7,10] .false),(12, .mk (.some 9) (.mv (.k (.bool .true))) .none 143 (.some
 [141,135,131,137]) .true [10,7,8,9,4,1,2,3,0,5,6,11] .false)]) .ret)))))))))
def rs50:List IRes:=[.tmp 8, .tmp 9]
set_option maxRecDepth 100000 in
theorem comp50:Comp Tryz.prog 50 ir50 rs50 138:=⟨⟨_,_,144,Tryz.func50,rfl,by kernel_rfl,by kernel_rfl,rfl⟩⟩
theorem body50:HasBody Tryz.prog 50:=hasBody_of (by kernel_rfl)
def ir54:IC :=
 .seq (.reg 0 1 [o1 2 (.mv (.k (.bool .false))) 0]) (.seq (.seq (.reg 1 1 [o1 3 (.mv (.k (.int .i64 0))) 1]) (.block 0 (.loop (.seq (.seq (.reg 2 4 [o1 4 (.mv (.t 3)) 2,o1 5 (.mv (.t 0)) 3,o1 6 (.lenS (.t 5)) 4,o1 7 (.bin .lss (.t 4) (.t 6)) 5]) (.cond (.t 7) .skip (.exit 0))) (.seq (.block 1 (.seq
 (.reg 6 10 [o1 10 (.mv (.t 0)) 6,o1 11 (.mv (.t 3)) 7,o1 12 (.pur (.idx 9) [.t 10, .t 11]) 8,o1 13 (.bin .lss (.t 12) (.k (.int .u8 33))) 9,o1 14 (.mv (.t 13)) 10,
 .mk (.some 15) (.mv (.t 0)) (.some (14, .false)) 11 .none .false [] .false, .mk (.some 16) (.mv (.t 3)) (.some (14, .false)) 12 .none .false [] .false, .mk (.some 17) (.pur (.idx
 9) [.t 15, .t 16]) (.some (14, .false)) 13 .none .false [] .false, .mk (.some 18) (.bin .gtr (.t 17) (.k (.int .u8 126))) (.some (14, .false)) 14 .none .false [] .false,o1 19 (.pick (.t 14) (.k (.bool .true)) (.t 18)) 15]) (.cond (.t 19) (.seq (.reg 16 1 [o1 2 (.mv (.k (.bool .false))) 16]) .ret) .skip))) (.reg 17 3 [o1 8 (.mv (.t 3)) 17,o1 9 (.bin .add (.t 8) (.k (.int .i64 1))) 18,o1 3 (.mv (.t 9)) 19])))))) (.seq (.reg 20 4 [o1 20 (.mv (.t 0)) 20,o1 21 (.lenS (.t 20)) 21,o1 22 (.call 27 [.t 21, .k (.int .i64 1), .k (.int .i64 32)]) 22,o1 2 (.mv (.t 22)) 23]) .ret))
def rs54:List IRes:=[.tmp 2]
set_option maxRecDepth 100000 in
theorem comp54:Comp Tryz.prog 54 ir54 rs54 23:=⟨⟨_,_,24,Tryz.func54,rfl,by kernel_rfl,by kernel_rfl,rfl⟩⟩
theorem body54:HasBody Tryz.prog 54:=hasBody_of (by kernel_rfl)
def ir66:IC :=
 .seq (.reg 0 1 [o1 6 (.mv (.k (.bool .false))) 0]) (.seq (.seq (.reg 1 1 [o1 7 (.mv (.k (.int .i64 0))) 1]) (.block 0 (.loop (.seq (.seq (.reg 2 4 [o1 8 (.mv (.t 7)) 2,o1 9 (.mv (.t 0)) 3,o1 10 (.len (.t 9)) 4,o1 11 (.bin .lss (.t 8) (.t 10)) 5]) (.cond (.t 11) .skip (.exit 0))) (.seq (.block 1 (.seq
 (.reg 6 6 [o1 14 (.mv (.t 0)) 6,o1 15 (.mv (.t 7)) 7,o1 16 (.iaddr 1 (.t 14) (.t 15)) 8,o1 17 (.load 1 .false (.t 16)) 9,o1 18 (.call 54 [.t 17]) 10,o1 19 (.un .not (.t 18)) 11]) (.cond (.t 19) (.seq (.reg 12 1 [o1 6 (.mv (.k (.bool .false))) 12]) .ret) .skip)))
 (.reg 13 3 [o1 12 (.mv (.t 7)) 13,o1 13 (.bin .add (.t 12) (.k (.int .i64 1))) 14,o1 7 (.mv (.t 13)) 15])))))) (.seq (.reg 16 6 [o1 20 (.mv (.t 0)) 16,o1 21 (.len (.t 20)) 17,o1 22 (.mv (.t 1)) 18,o1 23 (.mv (.t 2)) 19,o1 24 (.call 27 [.t 21, .t 22, .t 23]) 20,o1 6 (.mv (.t 24)) 21]) .ret))
def rs66:List IRes:=[.tmp 6]
set_option maxRecDepth 100000 in
theorem comp66:Comp Tryz.prog 66 ir66 rs66 25:=⟨⟨_,_,22,Tryz.func66,rfl,by kernel_rfl,by kernel_rfl,rfl⟩⟩
theorem body66:HasBody Tryz.prog 66:=hasBody_of (by kernel_rfl)
def ir67:IC :=
 .seq (.reg 0 2 [o1 4 (.box 25 (.t 0)) 0,o1 8 (.mv (.k (.bool .false))) 1]) (.seq (.reg 2 3 [o1 12 (.mv (.t 1)) 2,o1 13 (.call 21 [.t 12]) 3,o1 9 (.mv (.t 13)) 4])
 (.seq (.seq (.reg 5 7 [o1 14 (.mv (.t 3)) 5,o1 15 (.mv (.t 2)) 6,o1 16 (.len (.t 15)) 7,o1 17 (.bin .add (.t 14) (.t 16)) 8,o1 18 (.mv (.t 9)) 9,o1 19 (.len (.t 18)) 10,o1 20 (.bin .gtr (.t 17) (.t 19)) 11]) (.cond (.t 20) (.seq (.reg 12 1 [o1 8 (.mv (.k (.bool .false))) 12]) .ret) .skip)) (.seq (.seq (.reg 13 1 [o1 10 (.mv (.k (.int .i64 0))) 13]) (.block 0
 (.loop (.seq (.seq (.reg 14 4 [o1 21 (.mv (.t 10)) 14,o1 22 (.mv (.t 2)) 15,o1 23 (.len (.t 22)) 16,o1 24 (.bin .lss (.t 21) (.t 23)) 17]) (.cond (.t 24) .skip (.exit 0))) (.seq (.block 1 (.seq (.reg 18
 11 [o1 27 (.mv (.t 1)) 18,o1 28 (.mv (.t 9)) 19,o1 29 (.mv (.t 3)) 20,o1 30 (.mv (.t 10)) 21,o1 31 (.bin .add (.t 29) (.t 30)) 22,o1 32 (.iaddr 1 (.t 28) (.t 31)) 23,o1 33 (.load 1 .false (.t 32)) 24,o1 34 (.iaddr 4 (.t 27) (.t 33)) 25,o1 35 (.load 4 .true (.t 34)) 26, .mk (.some 11) (.alloc 49 [.string (ByteArray.mk (Array.mk [])), .int .i64 0, .int .i64 0, .int
 .i64 0]) .none 27 .none .false [] .false,o2 (.store 4 (.t 11) (.t 35)) 28]) (.seq (.draw 29 12 [11,4] [] [o3 36 (.faddr 0 (.t 11)) 29,o3 37 (.load 1 .false (.t 36)) 30,o3 38 (.mv (.t 2)) 31,
 o3 39 (.mv (.t 10)) 32,o3 40 (.iaddr 1 (.t 38) (.t 39)) 33,o3 41 (.load 1 .false (.t 40)) 34,o3 42 (.pur (.bin .neq 9) [.t 37, .t 41]) 35,o3 43 (.mv (.t 42)) 36, .mk (.some 44) (.load 2 .true (.t 4)) (.some (43, .false)) 37 (.some []) .true [] .false, .mk (.some 45) (.load 4 .true (.t 11)) (.some (43, .false)) 38 (.some
 []) .true [] .false, .mk (.some 46) (.call 74 [.t 44, .t 45]) (.some (43, .false)) 39 (.some []) .true [] .false, .mk (.some 47) (.pick (.t 43) (.k (.bool .true)) (.t 46)) .none
 40 (.some [39]) .true [] .false]) (.cond (.t 47) (.seq (.reg 41 1 [o1 8 (.mv (.k (.bool .false))) 41]) .ret) .skip)))) (.reg 42 3 [o1 25 (.mv (.t 10)) 42,o1 26 (.bin .add (.t 25) (.k (.int .i64 1))) 43,o1 10 (.mv (.t 26)) 44])))))) (.seq (.reg 45 1 [o1 8 (.mv (.k (.bool .true))) 45]) .ret))))
def rs67:List IRes:=[.tmp 8]
set_option maxRecDepth 100000 in
theorem comp67:Comp Tryz.prog 67 ir67 rs67 48:=⟨⟨_,_,46,Tryz.func67,rfl,by kernel_rfl,by kernel_rfl,rfl⟩⟩
theorem body67:HasBody Tryz.prog 67:=hasBody_of (by kernel_rfl)
def ir74:IC :=
 .seq (.reg 0 3 [o1 2 (.box 25 (.t 0)) 0,o1 3 (.box 49 (.t 1)) 1,o1 4 (.mv (.k (.bool .false))) 2]) (.seq (.reg 3 11 [o1 5 (.faddr 1 (.t 3)) 3,o1 6 (.load 1 .false (.t 5)) 4,o1 7 (.bin .geq (.t 6) (.k (.int .i64 0))) 5,o1 8 (.mv (.t 7)) 6, .mk (.some 9) (.faddr 1 (.t
 2)) (.some (8, .true)) 7 .none .false [] .false, .mk (.some 10) (.load 1 .false (.t 9)) (.some (8, .true)) 8 .none .false [] .false, .mk (.some 11) (.faddr 1 (.t 3)) (.some (8,
 .true)) 9 .none .false [] .false, .mk (.some 12) (.load 1 .false (.t 11)) (.some (8, .true)) 10 .none .false [] .false, .mk (.some 13) (.call 24 [.t 10, .t 12]) (.some (8, .true))
 11 .none .false [] .false,o1 14 (.pick (.t 8) (.t 13) (.k (.bool .false))) 12,o1 4 (.mv (.t 14)) 13])
 .ret)
def rs74:List IRes:=[.tmp 4]
set_option maxRecDepth 100000 in
theorem comp74:Comp Tryz.prog 74 ir74 rs74 15:=⟨⟨_,_,14,Tryz.func74,rfl,by kernel_rfl,by kernel_rfl,rfl⟩⟩
theorem body74:HasBody Tryz.prog 74:=hasBody_of (by kernel_rfl)
end Go.Proofs.YtfppbjfbghaclaaGreat
