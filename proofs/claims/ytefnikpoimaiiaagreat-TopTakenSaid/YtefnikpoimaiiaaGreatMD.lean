/- The intermediate forms of functions of the program (printed by a program of mine), each checked against the code. The intermediate forms of functions of the program (printed by a program of mine), each checked against the code. The intermediate forms of functions of the program (printed by a program of mine), each checked against the code. The intermediate forms of functions of the program (printed by a program of mine), each checked against the code. The intermediate forms of functions of the program (printed by a program of mine), each checked against the code. The intermediate forms of functions of the program (printed by a program of mine), each checked against the code. The intermediate forms of functions of the program (printed by a program of mine), each checked against the code. The intermediate forms of functions of the program (printed by a program of mine), each checked against the code. TopTaken: the intermediate forms of functions of the program (printed by a program of mine), each checked against the code. -/
import Derived.Test.YtefnikpoimaiiaaGreatMC
import Derived.Test.YtefnikpoimaiiaaGreatProg
import Derived.KernelRfl
set_option linter.unusedSimpArgs false
set_option linter.unusedVariables false
namespace Go.Proofs.YtefnikpoimaiiaaGreat
open Go.Pal
def ir53:IC :=
 .seq (.reg 1000 2 [o1 1 (.box 84 (.t 0)) 1000,o1 2 (.mv (.k (.bool .false))) 1001]) (.seq (.reg 1002 2
 [o1 3 (.alloc 3 [.int .i64 0]) 1002,o2 (.store 1 (.t 3) (.k (.int .i64 0))) 1003]) (.seq (.reg 1004 2
 [o1 7 (.mkf 110 [] [.t 3]) 1004,o1 4 (.mv (.t 7)) 1005]) (.seq (.reg 1006 2 [o1 5 (.alloc 3 [.int .i64 0]) 1006,o2 (.store 1 (.t 5) (.k (.int .i64 (-1)))) 1007]) (.seq (.reg 1008 2 [o1 8 (.mkf 113 [] [.t 5, .t 1]) 1008,o1 6 (.mv (.t 8)) 1009]) (.seq (.reg 1010 17 [o1 9 (.faddr 0 (.t 1)) 1010,o1 10 (.load 1 .false (.t 9)) 1011,o1 11 (.len (.t 10)) 1012,o1 12 (.bin .leq (.t 11) (.k (.int .i64 60))) 1013,o1 13 (.mv (.t 12)) 1014, .mk (.some 14) (.faddr 0 (.t 1)) (.some
 (13, .true)) 1015 .none .false [] .false, .mk (.some 15) (.load 1 .false (.t 14)) (.some (13, .true)) 1016 .none .false [] .false, .mk (.some 16) (.mv (.t 4)) (.some (13, .true))
 1017 .none .false [] .false, .mk (.some 17) (.call 114 [.t 15, .t 16]) (.some (13, .true)) 1018 .none .false [] .false,o1 18 (.pick (.t 13) (.t 17) (.k (.bool .false))) 1019,o1 19 (.mv (.t 18)) 1020, .mk (.some 20) (.faddr 1 (.t 1)) (.some (19, .true)) 1021 .none .false []
 .false, .mk (.some 21) (.load 1 .false (.t 20)) (.some (19, .true)) 1022 .none .false [] .false, .mk (.some 22) (.mv (.t 6)) (.some (19, .true)) 1023 .none .false [] .false, .mk
 (.some 23) (.call 115 [.t 21, .t 22]) (.some (19, .true)) 1024 .none .false [] .false,o1 24 (.pick (.t 19) (.t 23) (.k (.bool .false))) 1025,
 o1 2 (.mv (.t 24)) 1026]) .ret)))))
def rs53:List IRes:=[.tmp 2]
set_option maxRecDepth 100000 in
theorem comp53:CompAt Tryz.prog 84 1000 ir53 rs53 25:=⟨⟨_,_,1027,Tryz.func84,rfl,by kernel_rfl,by kernel_rfl,rfl⟩⟩
theorem body53:HasBody Tryz.prog 84:=hasBody_of (by kernel_rfl)
def ir56:IC :=
 .seq (.reg 1000 1 [o1 3 (.mv (.k (.bool .false))) 1000]) (.seq (.reg 1001 5 [o1 4 (.load 1 .false (.t 1)) 1001,o1 5 (.mv (.t 0)) 1002,o1 6 (.call 121 [.t 4, .t 5]) 1003,o1 7 (.un .not (.t 6)) 1004,o1 3 (.mv (.t 7)) 1005]) .ret)
def rs56:List IRes:=[.tmp 3]
def ir57:IC :=
 .seq (.reg 1000 2 [o1 3 (.box 3 (.t 1)) 1000,o1 4 (.mv (.k (.bool .false))) 1001]) (.seq (.draw 1002 15
 [3,0] [3] [o3 5 (.mv (.t 0)) 1002,o3 6 (.nilc (.t 5)) 1003,o3 7 (.faddr 3 (.t 6)) 1004,o3 8 (.load 1 .false (.t 7)) 1005,o3 9 (.load 1 .false (.t 3)) 1006,o3 10 (.call 41 [.t 8, .t 9]) 1007, .mk (.some 11) (.mv (.t 10)) .none 1008 (.some [1007]) .true [] .false, .mk (.some
 12) (.mv (.t 0)) (.some (11, .true)) 1009 (.some [1007]) .true [] .false, .mk (.some 13) (.nilc (.t 12)) (.some (11, .true)) 1010 (.some [1007]) .true [] .false, .mk (.some 14)
 (.faddr 2 (.t 13)) (.some (11, .true)) 1011 (.some [1007]) .true [] .false, .mk (.some 15) (.load 1 .false (.t 14)) (.some (11, .true)) 1012 (.some [1007]) .false [] .false, .mk
 (.some 16) (.mkf 181 [] [.t 3]) (.some (11, .true)) 1013 (.some [1007]) .true [] .false, .mk (.some 17) (.call 180 [.t 15, .t 16]) (.some (11, .true)) 1014 (.some [1007]) .false []
 .false, .mk (.some 18) (.pick (.t 11) (.t 17) (.k (.bool .false))) .none 1015 (.some [1014,1007]) .true [] .false, .mk (.some 4) (.mv (.t 18)) .none 1016 (.some [1007,1014])
 .true [] .false]) .ret)
def rs57:List IRes:=[.tmp 4]
set_option maxRecDepth 100000 in
theorem comp57:CompAt Tryz.prog 121 1000 ir57 rs57 19:=⟨⟨_,_,1017,Tryz.func121,rfl,by kernel_rfl,by kernel_rfl,rfl⟩⟩
theorem body57:HasBody Tryz.prog 121:=hasBody_of (by kernel_rfl)
def ir59:IC :=
 .seq (.reg 1000 1 [o1 6 (.mv (.k (.bool .false))) 1000]) (.seq (.reg 1001 10 [o1 7 (.mv (.t 0)) 1001,o1 8 (.len (.t 7)) 1002,o1 9 (.mv (.t 1)) 1003,o1 10 (.mv (.t 2)) 1004,o1 11 (.call 112 [.t 8, .t 9, .t 10]) 1005,o1 12 (.mv (.t 11)) 1006, .mk (.some 13) (.mv (.t
 0)) (.some (12, .true)) 1007 .none .false [] .false, .mk (.some 14) (.call 178 [.t 13, .f 111]) (.some (12, .true)) 1008 .none .false [] .false,o1 15 (.pick (.t 12) (.t 14) (.k (.bool .false))) 1009,o1 6 (.mv (.t 15)) 1010]) .ret)
def rs59:List IRes:=[.tmp 6]
set_option maxRecDepth 100000 in
theorem comp59:CompAt Tryz.prog 118 1000 ir59 rs59 16:=⟨⟨_,_,1011,Tryz.func118,rfl,by kernel_rfl,by kernel_rfl,rfl⟩⟩
theorem body59:HasBody Tryz.prog 118:=hasBody_of (by kernel_rfl)
def rs60:List IRes:=[.tmp 4]
def ir61:IC :=
 .seq (.reg 1000 2 [o1 1 (.box 84 (.t 0)) 1000,o1 2 (.mv (.k (.pointer .none))) 1001]) (.seq (.reg 1002 4
 [o1 6 (.load 2 .true (.t 1)) 1002,o1 7 (.bld [(0,2),(2,1),(3,1),(4,1)] [.slice .none 0 0, .slice .none 0 0, .slice .none 0 0, .slice .none 0 0, .int .i64 0] [(0, .t 6)]) 1003,o1 8 (.box 167 (.t 7)) 1004,o1 3 (.mv (.t 8)) 1005]) (.seq (.seq (.reg 1006 4 [o1 9 (.faddr 0 (.t 1)) 1006,o1 10 (.load 1 .false (.t 9)) 1007,o1 11 (.len (.t 10)) 1008,o1 12 (.mv (.k (.int .i64 0))) 1009]) (.block 0
 (.loop (.seq (.reg 1010 1 [o1 13 (.bin .lss (.t 12) (.t 11)) 1010]) (.seq (.cond (.t 13) .skip (.exit 0)) (.seq (.block 1 (.seq (.reg 1011 6
 [o1 14 (.mv (.t 12)) 1011,o1 15 (.iaddr 3 (.t 10) (.t 12)) 1012,o1 16 (.load 3 .true (.t 15)) 1013, .mk (.some 5) (.alloc 132 [.string (ByteArray.mk (Array.mk [])), .int .i64 0, .int .i64 0]) .none 1014 .none .false [] .false,o1 4 (.mv (.t 14)) 1015,o2 (.store 3 (.t 5) (.t 16)) 1016]) (.draw 1017 15 [] [] [o3 17 (.mv (.t 3)) 1017,o3 18 (.mv (.t 3)) 1018,o3 19 (.nilc (.t 18)) 1019,o3 20 (.faddr 2 (.t 19)) 1020,o3 21 (.load 1 .false (.t 20)) 1021,o3 22 (.faddr 0 (.t 5)) 1022,o3 23 (.load 1 .false (.t 22)) 1023,o3 24 (.mv (.t 4)) 1024, .mk (.some 25) (.bld [(0,1),(1,1),(2,1)] [.string (ByteArray.mk (Array.mk [])), .int .i64 0, .int .i64 0] [(0, .t 23),(1, .t 24),(2, .k (.int .i64 0))]) .none
 1025 (.some []) .true [] .false, .mk (.some 26) (.bld [(0,3),(3,1)] [.string (ByteArray.mk (Array.mk [])), .int .i64 0, .int .i64 0, .int .i64 0] [(0, .t 25),(1, .k (.int .i64
 0))]) .none 1026 (.some []) .true [] .false, .mk (.some 27) (.bsl 164 4 1 [.string (ByteArray.mk (Array.mk [])), .int .i64 0, .int .i64 0, .int .i64 0] [(0, .t 26)]) .none 1027
 (.some []) .true [] .false, .mk (.some 28) (.apph 164 4 40 (.t 21) (.t 27)) .none 1028 (.some [0,1027]) .true [] .true, .mk (.some 29) (.nilc (.t 17)) .none 1029 (.some [1027])
 .true [] .false, .mk (.some 30) (.faddr 2 (.t 29)) .none 1030 (.some [1027]) .true [] .false, .mk .none (.store 1 (.t 30) (.t 28)) .none 1031 (.some [1027]) .true [] .false])))
 (.reg 1032 2 [o1 31 (.bin .add (.t 12) (.k (.int .i64 1))) 1032,o1 12 (.mv (.t 31)) 1033]))))))) (.seq
 (.reg 1034 2 [o1 32 (.mv (.t 3)) 1034,o1 2 (.mv (.t 32)) 1035]) .ret)))
def rs61:List IRes:=[.tmp 2]
set_option maxRecDepth 100000 in
theorem comp61:CompAt Tryz.prog 86 1000 ir61 rs61 33:=⟨⟨_,_,1036,Tryz.func86,rfl,by kernel_rfl,by kernel_rfl,rfl⟩⟩
theorem body61:HasBody Tryz.prog 86:=hasBody_of (by kernel_rfl)
def ir65:IC :=
 .seq (.reg 1000 1 [o1 3 (.box 133 (.t 1)) 1000]) (.seq (.reg 1001 3 [o1 14 (.mv (.t 0)) 1001,o1 15 (.call 116 [.t 14]) 1002,o1 4 (.mv (.t 15)) 1003]) (.seq (.reg 1004 33 [o1 16 (.faddr 1 (.t 3)) 1004,o1 17 (.load 1 .false (.t 16)) 1005,o1 18 (.bin .geq (.t 17) (.k (.int .i64 0))) 1006,o1 19 (.mv (.t 18)) 1007, .mk (.some 20) (.faddr 2 (.t 3)) (.some (19, .true)) 1008 .none .false [] .false, .mk
 (.some 21) (.load 1 .false (.t 20)) (.some (19, .true)) 1009 .none .false [] .false, .mk (.some 22) (.call 112 [.t 21, .k (.int .i64 0), .k (.int .i64 4)]) (.some (19, .true)) 1010
 .none .false [] .false,o1 23 (.pick (.t 19) (.t 22) (.k (.bool .false))) 1011,o1 24 (.mv (.t 23)) 1012, .mk (.some 25) (.faddr 1 (.t 3)) (.some (24, .true)) 1013 .none .false [] .false, .mk (.some 26) (.load 1 .false (.t 25)) (.some (24, .true)) 1014 .none .false [] .false,
 .mk (.some 27) (.mv (.t 4)) (.some (24, .true)) 1015 .none .false [] .false, .mk (.some 28) (.len (.t 27)) (.some (24, .true)) 1016 .none .false [] .false, .mk (.some 29) (.faddr
 2 (.t 3)) (.some (24, .true)) 1017 .none .false [] .false, .mk (.some 30) (.load 1 .false (.t 29)) (.some (24, .true)) 1018 .none .false [] .false, .mk (.some 31) (.bin .sub (.t
 28) (.t 30)) (.some (24, .true)) 1019 .none .false [] .false, .mk (.some 32) (.bin .leq (.t 26) (.t 31)) (.some (24, .true)) 1020 .none .false [] .false,o1 33 (.pick (.t 24) (.t 32) (.k (.bool .false))) 1021,o1 34 (.mv (.t 33)) 1022, .mk (.some 35) (.faddr 3 (.t 3)) (.some (34,
 .true)) 1023 .none .false [] .false, .mk (.some 36) (.load 1 .false (.t 35)) (.some (34, .true)) 1024 .none .false [] .false, .mk (.some 37) (.call 118 [.t 36, .k (.int .i64 0), .k
 (.int .i64 4)]) (.some (34, .true)) 1025 .none .false [] .false,o1 38 (.pick (.t 34) (.t 37) (.k (.bool .false))) 1026,o1 39 (.mv (.t 38)) 1027, .mk (.some 40) (.faddr 2 (.t 3)) (.some (39, .true)) 1028 .none .false [] .false, .mk (.some 41) (.load 1 .false (.t 40)) (.some (39,
 .true)) 1029 .none .false [] .false, .mk (.some 42) (.faddr 3 (.t 3)) (.some (39, .true)) 1030 .none .false [] .false, .mk (.some 43) (.load 1 .false (.t 42)) (.some (39, .true))
 1031 .none .false [] .false, .mk (.some 44) (.len (.t 43)) (.some (39, .true)) 1032 .none .false [] .false, .mk (.some 45) (.bin .add (.t 41) (.t 44)) (.some (39, .true)) 1033
 .none .false [] .false, .mk (.some 46) (.bin .gtr (.t 45) (.k (.int .i64 0))) (.some (39, .true)) 1034 .none .false [] .false,o1 47 (.pick (.t 39) (.t 46) (.k (.bool .false))) 1035,o1 48 (.call 117 [.t 47]) 1036]) (.seq (.reg 1037 6 [o1 49 (.mv (.t 0)) 1037,o1 50 (.nilc (.t 49)) 1038,o1 51 (.faddr 4 (.t 50)) 1039,o1 52 (.load 1 .false (.t 51)) 1040,o1 53 (.bin .add (.t 52) (.k (.int .i64 1))) 1041,o1 5 (.mv (.t 53)) 1042]) (.seq (.reg 1043 1 [o1 6 (.mv (.k (.int .i64 0))) 1043]) (.seq (.seq (.reg 1044 3 [o1 54 (.faddr 2 (.t 3)) 1044,o1 55 (.load 1 .false (.t 54)) 1045,o1 56 (.bin .gtr (.t 55) (.k (.int .i64 0))) 1046]) (.cond (.t 56) (.reg 1047 6 [o1 57 (.mv (.t 4)) 1047,o1 58 (.faddr 1 (.t 3)) 1048,o1 59 (.load 1 .false (.t 58)) 1049,o1 60 (.iaddr 1 (.t 57) (.t 59)) 1050,o1 61 (.load 1 .false (.t 60)) 1051,o1 6 (.mv (.t 61)) 1052]) (.seq (.reg 1053 3 [o1 62 (.faddr 1 (.t 3)) 1053,o1 63 (.load 1 .false (.t 62)) 1054,o1 64 (.bin .gtr (.t 63) (.k (.int .i64 0))) 1055]) (.cond (.t 64) (.reg 1056 8 [o1 65 (.mv (.t 4)) 1056,o1 66 (.faddr 1 (.t 3)) 1057,o1 67 (.load 1 .false (.t 66)) 1058,o1 68 (.bin .sub (.t 67) (.k (.int .i64 1))) 1059,o1 69 (.iaddr 1 (.t 65) (.t 68)) 1060,o1 70 (.load 1 .false (.t 69)) 1061,o1 71 (.bin .add (.t 70) (.k (.int .i64 1))) 1062,o1 6 (.mv (.t 71)) 1063]) .skip)))) (.seq (.seq (.reg 1064 11 [o1 72 (.mv (.t 4)) 1064,o1 73 (.faddr 1 (.t 3)) 1065,o1 74 (.load 1 .false (.t 73)) 1066,o1 75 (.faddr 1 (.t 3)) 1067,o1 76 (.load 1 .false (.t 75)) 1068,o1 77 (.faddr 2 (.t 3)) 1069,o1 78 (.load 1 .false (.t 77)) 1070,o1 79 (.bin .add (.t 76) (.t 78)) 1071,o1 80 (.slc 1 (.t 72) (.some (.t 74)) (.some (.t 79)) .none) 1072,o1 81 (.len (.t 80)) 1073,o1 82 (.mv (.k (.int .i64 0))) 1074]) (.block 0 (.loop (.seq (.reg 1075 1 [o1 83 (.bin .lss (.t 82) (.t 81)) 1075]) (.seq (.cond (.t 83) .skip (.exit 0)) (.seq (.block 1 (.seq (.reg 1076 3 [o1 84 (.iaddr 1 (.t 80) (.t 82)) 1076,o1 85 (.load 1 .false (.t 84)) 1077,o1 8 (.mv (.t 85)) 1078]) (.reg 1079 11 [o1 86 (.mv (.t 0)) 1079,o1 87 (.mv (.t 0)) 1080,o1 88 (.nilc (.t 87)) 1081,o1 89 (.faddr 2 (.t 88)) 1082,o1 90 (.load 1 .false (.t 89)) 1083,o1 91 (.mv (.t 8)) 1084,o1 92 (.iaddr 4 (.t 90) (.t 91)) 1085,o1 93 (.load 4 .true (.t 92)) 1086,o1 94 (.call 119 [.t 86, .t 93]) 1087,o1 95 (.un .not (.t 94)) 1088,o1 96 (.call 117 [.t 95]) 1089]))) (.reg 1090 2 [o1 97 (.bin .add (.t 82) (.k (.int .i64 1))) 1090,o1 82 (.mv (.t 97)) 1091]))))))) (.seq (.seq (.reg 1092 11 [o1 98 (.mv (.t 4)) 1092,o1 99 (.faddr 1 (.t 3)) 1093,o1 100 (.load 1 .false (.t 99)) 1094,o1 101 (.faddr 1 (.t 3)) 1095,o1 102 (.load 1 .false (.t 101)) 1096,o1 103 (.faddr 2 (.t 3)) 1097,o1 104 (.load 1 .false (.t 103)) 1098,o1 105 (.bin .add (.t 102) (.t 104)) 1099,o1 106 (.slc 1 (.t 98) (.some (.t 100)) (.some (.t 105)) .none) 1100,o1 107 (.len (.t 106)) 1101,o1 108 (.mv (.k (.int .i64 0))) 1102])
 (.block 2 (.loop (.seq (.reg 1103 1 [o1 109 (.bin .lss (.t 108) (.t 107)) 1103]) (.seq (.cond (.t 109) .skip (.exit 2)) (.seq (.block 3 (.seq
 (.reg 1104 3 [o1 110 (.iaddr 1 (.t 106) (.t 108)) 1104,o1 111 (.load 1 .false (.t 110)) 1105,o1 10 (.mv (.t 111)) 1106]) (.reg 1107 9 [o1 112 (.mv (.t 0)) 1107,o1 113 (.nilc (.t 112)) 1108,o1 114 (.faddr 2 (.t 113)) 1109,o1 115 (.load 1 .false (.t 114)) 1110,
 o1 116 (.mv (.t 10)) 1111,o1 117 (.mv (.t 5)) 1112,o1 118 (.iaddr 4 (.t 115) (.t 116)) 1113,o1 119 (.faddr 3 (.t 118)) 1114,o2 (.store 1 (.t 119) (.t 117)) 1115])))
 (.reg 1116 2 [o1 120 (.bin .add (.t 108) (.k (.int .i64 1))) 1116,o1 108 (.mv (.t 120)) 1117])))))))
 (.seq (.reg 1118 1 [o1 11 (.mv (.k (.slice .none 0 0))) 1118]) (.seq (.seq (.reg 1119 4 [o1 121 (.faddr 3 (.t 3)) 1119,o1 122 (.load 1 .false (.t 121)) 1120,o1 123 (.len (.t 122)) 1121,o1 124 (.mv (.k (.int .i64 0))) 1122]) (.block 4 (.loop (.seq (.reg 1123 1 [o1 125 (.bin .lss (.t 124) (.t 123)) 1123])
 (.seq (.cond (.t 125) .skip (.exit 4)) (.seq (.block 5 (.seq (.reg 1124 3 [o1 126 (.iaddr 1 (.t 122) (.t 124)) 1124,o1 127 (.load 1 .false (.t 126)) 1125,o1 13 (.mv (.t 127)) 1126]) (.reg 1127 8 [o1 128 (.mv (.t 11)) 1127,o1 129 (.mv (.t 13)) 1128,o1 130 (.mv (.t 5)) 1129, .mk (.some 131) (.bld [(0,1),
 (1,1),(2,1)] [.string (ByteArray.mk (Array.mk [])), .int .i64 0, .int .i64 0] [(0, .t 129),(1, .k (.int .i64 (-1))),(2, .t 130)]) .none 1130 .none .false [] .false, .mk
 (.some 132) (.bld [(0,3),(3,1)] [.string (ByteArray.mk (Array.mk [])), .int .i64 0, .int .i64 0, .int .i64 0] [(0, .t 131),(1, .k (.int .i64 0))]) .none 1131 .none .false []
 .false, .mk (.some 133) (.bsl 164 4 1 [.string (ByteArray.mk (Array.mk [])), .int .i64 0, .int .i64 0, .int .i64 0] [(0, .t 132)]) .none 1132 .none .false [] .false,o1 134 (.app 164 4 40 (.t 128) (.t 133)) 1133,o1 11 (.mv (.t 134)) 1134]))) (.reg 1135 2 [o1 135 (.bin .add (.t 124) (.k (.int .i64 1))) 1135,o1 124 (.mv (.t 135)) 1136]))))))) (.seq (.reg 1137 4 [o1 136 (.mv (.t 0)) 1137,o1 137 (.mv (.t 6)) 1138,o1 138 (.mv (.t 11)) 1139,
 o1 139 (.call 120 [.t 136, .t 137, .t 138]) 1140]) (.reg 1141 16 [o1 140 (.mv (.t 0)) 1141,o1 141 (.mv (.t 0)) 1142,o1 142 (.mv (.t 5)) 1143,o1 143 (.mv (.t 0)) 1144,o1 144 (.nilc (.t 143)) 1145,o1 145 (.faddr 3 (.t 144)) 1146,o1 146 (.load 1 .false (.t 145)) 1147,o1 147 (.mv (.t 5)) 1148,o1 148 (.bsl 3 1 1 [.int .i64 0] [(0, .t 147)]) 1149,o1 149 (.apph 3 1 8 (.t 146) (.t 148)) 1150,o1 150 (.nilc (.t 140)) 1151,o1 151 (.faddr 4 (.t 150)) 1152,o2 (.store 1 (.t 151) (.t 142)) 1153,o1 152 (.nilc (.t 141)) 1154,o1 153 (.faddr 3 (.t 152)) 1155,o2 (.store 1 (.t 153) (.t 149)) 1156])))))))))))
def rs65:List IRes:=[]
set_option maxRecDepth 100000 in
theorem comp65:CompAt Tryz.prog 87 1000 ir65 rs65 154:=⟨⟨_,_,1157,Tryz.func87,rfl,by kernel_rfl,by kernel_rfl,rfl⟩⟩
theorem body65:HasBody Tryz.prog 87:=hasBody_of (by kernel_rfl)
def ir69:IC :=
 .seq (.reg 1000 1 [o1 3 (.box 133 (.t 1)) 1000]) (.seq (.reg 1001 5 [o1 5 (.mv (.t 0)) 1001,o1 6 (.faddr 0 (.t 3)) 1002,o1 7 (.load 1 .false (.t 6)) 1003,o1 8 (.call 121 [.t 5, .t 7]) 1004,o1 9 (.call 117 [.t 8]) 1005]) (.seq (.reg 1006 10 [o1 10 (.mv (.t 0)) 1006,o1 11 (.mv (.t 0)) 1007,o1 12 (.nilc (.t 11)) 1008,o1 13 (.faddr 2 (.t 12)) 1009,o1 14 (.load 1 .false (.t 13)) 1010,o1 15 (.mkf 123 [] [.t 3]) 1011,o1 16 (.call 122 [.t 14, .t 15]) 1012,o1 17 (.nilc (.t 10)) 1013,o1 18 (.faddr 2 (.t 17)) 1014,o2 (.store 1 (.t 18) (.t 16)) 1015]) (.seq (.seq (.reg 1016 6 [o1 19 (.mv (.t 0)) 1016,
 o1 20 (.nilc (.t 19)) 1017,o1 21 (.faddr 2 (.t 20)) 1018,o1 22 (.load 1 .false (.t 21)) 1019,o1 23 (.len (.t 22)) 1020,o1 24 (.mv (.k (.int .i64 0))) 1021])
 (.block 0 (.loop (.seq (.reg 1022 1 [o1 25 (.bin .lss (.t 24) (.t 23)) 1022]) (.seq (.cond (.t 25) .skip (.exit 0)) (.seq (.block 1 (.seq
 (.reg 1023 2 [o1 26 (.mv (.t 24)) 1023,o1 4 (.mv (.t 26)) 1024]) (.seq (.draw 1025 11 [] [] [o3 27 (.mv (.t 0)) 1025,o3 28 (.nilc (.t 27)) 1026,o3 29 (.faddr 2 (.t 28)) 1027,o3 30 (.load 1 .false (.t 29)) 1028,o3 31 (.mv (.t 4)) 1029,o3 32 (.iaddr 4 (.t 30) (.t 31)) 1030,o3 33 (.faddr 3 (.t 32)) 1031,o3 34 (.load 1 .false (.t 33)) 1032,o3 35 (.faddr 0 (.t 3)) 1033,o3 36 (.load 1 .false (.t 35)) 1034,o3 37 (.bin .eql (.t 34) (.t 36)) 1035]) (.cond (.t 37) (.reg 1036 8 [o1 38 (.mv (.t 0)) 1036,o1 39 (.nilc (.t 38)) 1037,o1 40 (.faddr 2 (.t 39)) 1038,o1 41 (.load 1 .false (.t 40)) 1039,o1 42 (.mv (.t 4)) 1040,o1 43 (.iaddr 4 (.t 41) (.t 42)) 1041,o1 44 (.faddr 3 (.t 43)) 1042,o2 (.store 1 (.t 44) (.k (.int .i64 0))) 1043])
 .skip)))) (.reg 1044 2 [o1 45 (.bin .add (.t 24) (.k (.int .i64 1))) 1044,o1 24 (.mv (.t 45)) 1045]))))))) (.reg 1046 10 [o1 46 (.mv (.t 0)) 1046,o1 47 (.mv (.t 0)) 1047,o1 48 (.nilc (.t 47)) 1048,o1 49 (.faddr 3 (.t 48)) 1049,o1 50 (.load 1 .false (.t 49)) 1050,o1 51 (.mkf 125 [] [.t 3]) 1051,o1 52 (.call 124 [.t 50, .t 51]) 1052,o1 53 (.nilc (.t 46)) 1053,o1 54 (.faddr 3 (.t 53)) 1054,o2 (.store 1 (.t 54) (.t 52)) 1055]))))
def rs69:List IRes:=[]
set_option maxRecDepth 100000 in
theorem comp69:CompAt Tryz.prog 88 1000 ir69 rs69 55:=⟨⟨_,_,1056,Tryz.func88,rfl,by kernel_rfl,by kernel_rfl,rfl⟩⟩
theorem body69:HasBody Tryz.prog 88:=hasBody_of (by kernel_rfl)
def ir75:IC :=
 .seq (.reg 1000 2 [o1 2 (.box 132 (.t 0)) 1000,o1 3 (.mv (.k (.bool .false))) 1001]) (.seq (.reg 1002 15
 [o1 5 (.faddr 0 (.t 2)) 1002,o1 6 (.load 1 .false (.t 5)) 1003,o1 7 (.call 111 [.t 6]) 1004,o1 8 (.mv (.t 7)) 1005, .mk (.some 9) (.faddr 1 (.t 2)) (.some (8, .true)) 1006 .none .false [] .false, .mk
 (.some 10) (.load 1 .false (.t 9)) (.some (8, .true)) 1007 .none .false [] .false, .mk (.some 11) (.load 1 .false (.t 1)) (.some (8, .true)) 1008 .none .false [] .false, .mk
 (.some 12) (.call 112 [.t 10, .t 11, .k (.int .i64 36000)]) (.some (8, .true)) 1009 .none .false [] .false,o1 13 (.pick (.t 8) (.t 12) (.k (.bool .false))) 1010,o1 14 (.mv (.t 13)) 1011, .mk (.some 15) (.faddr 2 (.t 2)) (.some (14, .true)) 1012 .none .false [] .false, .mk
 (.some 16) (.load 1 .false (.t 15)) (.some (14, .true)) 1013 .none .false [] .false, .mk (.some 17) (.call 112 [.t 16, .k (.int .i64 0), .k (.int .i64 99)]) (.some (14, .true))
 1014 .none .false [] .false,o1 18 (.pick (.t 14) (.t 17) (.k (.bool .false))) 1015,o1 4 (.mv (.t 18)) 1016]) (.seq (.reg 1017 3 [o1 19 (.faddr 1 (.t 2)) 1017,o1 20 (.load 1 .false (.t 19)) 1018,o2 (.store 1 (.t 1) (.t 20)) 1019]) (.seq (.reg 1020 2 [o1 21 (.mv (.t 4)) 1020,o1 3 (.mv (.t 21)) 1021]) .ret)))
def rs75:List IRes:=[.tmp 3]
set_option maxRecDepth 100000 in
theorem comp75:CompAt Tryz.prog 110 1000 ir75 rs75 22:=⟨⟨_,_,1022,Tryz.func110,rfl,by kernel_rfl,by kernel_rfl,rfl⟩⟩
theorem body75:HasBody Tryz.prog 110:=hasBody_of (by kernel_rfl)
def ir76:IC :=
 .seq (.reg 1000 1 [o1 2 (.mv (.k (.bool .false))) 1000]) (.seq (.reg 1001 9 [o1 3 (.mv (.t 0)) 1001,o1 4 (.lenS (.t 3)) 1002,o1 5 (.call 112 [.t 4, .k (.int .i64 1), .k (.int .i64 32)]) 1003,o1 6 (.mv (.t 5)) 1004, .mk (.some 7) (.mv (.t 0)) (.some (6, .true)) 1005 .none .false [] .false, .mk (.some 8) (.s2b 5 (.t 7)) (.some (6, .true)) 1006
 .none .false [] .false, .mk (.some 9) (.call 172 [.t 8, .f 173]) (.some (6, .true)) 1007 .none .false [] .false,o1 10 (.pick (.t 6) (.t 9) (.k (.bool .false))) 1008,o1 2 (.mv (.t 10)) 1009]) .ret)
def rs76:List IRes:=[.tmp 2]
set_option maxRecDepth 100000 in
theorem comp76:CompAt Tryz.prog 111 1000 ir76 rs76 11:=⟨⟨_,_,1010,Tryz.func111,rfl,by kernel_rfl,by kernel_rfl,rfl⟩⟩
theorem body76:HasBody Tryz.prog 111:=hasBody_of (by kernel_rfl)
def ir78:IC :=
 .seq (.reg 1000 1 [o1 4 (.mv (.k (.bool .false))) 1000]) (.seq (.reg 1001 9 [o1 6 (.mv (.t 0)) 1001,o1 7 (.load 1 .false (.t 1)) 1002,o1 8 (.bin .add (.t 7) (.k (.int .i64 1))) 1003,o1 9 (.faddr 0 (.t 2)) 1004,o1 10 (.load 1 .false (.t 9)) 1005,o1 11 (.len (.t 10)) 1006,o1 12 (.bin .sub (.t 11) (.k (.int .i64 1))) 1007,o1 13 (.call 112 [.t 6, .t 8, .t 12]) 1008,
 o1 5 (.mv (.t 13)) 1009]) (.seq (.reg 1010 2 [o1 14 (.mv (.t 0)) 1010,o2 (.store 1 (.t 1) (.t 14)) 1011]) (.seq (.reg 1012 2 [o1 15 (.mv (.t 5)) 1012,o1 4 (.mv (.t 15)) 1013]) .ret)))
def rs78:List IRes:=[.tmp 4]
set_option maxRecDepth 100000 in
theorem comp78:CompAt Tryz.prog 113 1000 ir78 rs78 16:=⟨⟨_,_,1014,Tryz.func113,rfl,by kernel_rfl,by kernel_rfl,rfl⟩⟩
theorem body78:HasBody Tryz.prog 113:=hasBody_of (by kernel_rfl)
def ir79:IC :=
 .seq (.reg 1000 2 [o1 3 (.box 240 (.t 1)) 1000,o1 4 (.mv (.k (.bool .false))) 1001]) (.seq (.reg 1002 5
 [o1 5 (.mv (.t 0)) 1002,o1 6 (.mkf 175 [] [.t 3]) 1003,o1 7 (.call 174 [.t 5, .t 6]) 1004,o1 8 (.un .not (.t 7)) 1005,o1 4 (.mv (.t 8)) 1006]) .ret)
def rs79:List IRes:=[.tmp 4]
set_option maxRecDepth 100000 in
theorem comp79:CompAt Tryz.prog 114 1000 ir79 rs79 9:=⟨⟨_,_,1007,Tryz.func114,rfl,by kernel_rfl,by kernel_rfl,rfl⟩⟩
theorem body79:HasBody Tryz.prog 114:=hasBody_of (by kernel_rfl)
def ir80:IC :=
 .seq (.reg 1000 2 [o1 3 (.box 150 (.t 1)) 1000,o1 4 (.mv (.k (.bool .false))) 1001]) (.seq (.reg 1002 5
 [o1 5 (.mv (.t 0)) 1002,o1 6 (.mkf 177 [] [.t 3]) 1003,o1 7 (.call 176 [.t 5, .t 6]) 1004,o1 8 (.un .not (.t 7)) 1005,o1 4 (.mv (.t 8)) 1006]) .ret)
def rs80:List IRes:=[.tmp 4]
set_option maxRecDepth 100000 in
theorem comp80:CompAt Tryz.prog 115 1000 ir80 rs80 9:=⟨⟨_,_,1007,Tryz.func115,rfl,by kernel_rfl,by kernel_rfl,rfl⟩⟩
theorem body80:HasBody Tryz.prog 115:=hasBody_of (by kernel_rfl)
def ir81:IC :=
 .seq (.reg 1000 1 [o1 4 (.mv (.k (.int .i64 0))) 1000]) (.seq (.seq (.reg 1001 3 [o1 6 (.mv (.t 0)) 1001,
 o1 7 (.len (.t 6)) 1002,o1 8 (.mv (.k (.int .i64 0))) 1003]) (.block 0 (.loop (.seq (.reg 1004 1 [o1 9 (.bin .lss (.t 8) (.t 7)) 1004]) (.seq (.cond (.t 9) .skip (.exit 0)) (.seq (.block 1 (.seq (.reg 1005 2 [o1 10 (.mv (.t 8)) 1005,o1 5 (.mv (.t 10)) 1006]) (.seq (.reg 1007 6 [o1 11 (.mv (.t 1)) 1007,o1 12 (.mv (.t 0)) 1008,o1 13 (.mv (.t 5)) 1009,o1 14 (.iaddr 1 (.t 12) (.t 13)) 1010,o1 15 (.load 1 .false (.t 14)) 1011,o1 16 (.callv (.t 11) [.t 15]) 1012])
 (.cond (.t 16) (.seq (.reg 1013 2 [o1 17 (.mv (.t 5)) 1013,o1 4 (.mv (.t 17)) 1014]) .ret) .skip))))
 (.reg 1015 2 [o1 18 (.bin .add (.t 8) (.k (.int .i64 1))) 1015,o1 8 (.mv (.t 18)) 1016]))))))) (.seq
 (.reg 1017 1 [o1 4 (.mv (.k (.int .i64 (-1)))) 1017]) .ret))
def rs81:List IRes:=[.tmp 4]
set_option maxRecDepth 100000 in
theorem comp81:CompAt Tryz.prog 183 1000 ir81 rs81 19:=⟨⟨_,_,1018,Tryz.func183,rfl,by kernel_rfl,by kernel_rfl,rfl⟩⟩
theorem body81:HasBody Tryz.prog 183:=hasBody_of (by kernel_rfl)
def ir83:IC :=
 .seq (.reg 1000 2 [o1 3 (.box 246 (.t 1)) 1000,o1 4 (.mv (.k (.bool .false))) 1001]) (.seq (.reg 1002 5
 [o1 5 (.mv (.t 0)) 1002,o1 6 (.mkf 215 [] [.t 3]) 1003,o1 7 (.call 214 [.t 5, .t 6]) 1004,o1 8 (.un .not (.t 7)) 1005,o1 4 (.mv (.t 8)) 1006]) .ret)
def rs83:List IRes:=[.tmp 4]
set_option maxRecDepth 100000 in
theorem comp83:CompAt Tryz.prog 180 1000 ir83 rs83 9:=⟨⟨_,_,1007,Tryz.func180,rfl,by kernel_rfl,by kernel_rfl,rfl⟩⟩
theorem body83:HasBody Tryz.prog 180:=hasBody_of (by kernel_rfl)
def ir84:IC :=
 .seq (.reg 1000 2 [o1 2 (.box 164 (.t 0)) 1000,o1 3 (.mv (.k (.bool .false))) 1001]) (.seq (.reg 1002 11
 [o1 4 (.faddr 0 (.t 2)) 1002,o1 5 (.faddr 2 (.t 4)) 1003,o1 6 (.load 1 .false (.t 5)) 1004,o1 7 (.load 1 .false (.t 1)) 1005,o1 8 (.bin .neq (.t 6) (.t 7)) 1006,
 o1 9 (.mv (.t 8)) 1007, .mk (.some 10) (.faddr 3 (.t 2)) (.some (9, .false)) 1008 .none .false [] .false, .mk (.some 11) (.load 1 .false (.t
 10)) (.some (9, .false)) 1009 .none .false [] .false, .mk (.some 12) (.bin .eql (.t 11) (.k (.int .i64 0))) (.some (9, .false)) 1010 .none .false [] .false,o1 13 (.pick (.t 9) (.k (.bool .true)) (.t 12)) 1011,o1 3 (.mv (.t 13)) 1012]) .ret)
def rs84:List IRes:=[.tmp 3]
set_option maxRecDepth 100000 in
theorem comp84:CompAt Tryz.prog 181 1000 ir84 rs84 14:=⟨⟨_,_,1013,Tryz.func181,rfl,by kernel_rfl,by kernel_rfl,rfl⟩⟩
theorem body84:HasBody Tryz.prog 181:=hasBody_of (by kernel_rfl)
def ir85:IC :=
 .seq (.reg 1000 2 [o1 3 (.box 131 (.t 1)) 1000,o1 4 (.mv (.k (.bool .false))) 1001]) (.seq (.reg 1002 5
 [o1 5 (.mv (.t 0)) 1002,o1 6 (.mkf 211 [] [.t 3]) 1003,o1 7 (.call 192 [.t 5, .t 6]) 1004,o1 8 (.un .not (.t 7)) 1005,o1 4 (.mv (.t 8)) 1006]) .ret)
def rs85:List IRes:=[.tmp 4]
set_option maxRecDepth 100000 in
theorem comp85:CompAt Tryz.prog 178 1000 ir85 rs85 9:=⟨⟨_,_,1007,Tryz.func178,rfl,by kernel_rfl,by kernel_rfl,rfl⟩⟩
theorem body85:HasBody Tryz.prog 178:=hasBody_of (by kernel_rfl)
def ir91:IC :=
 .seq (.reg 1000 2 [o1 3 (.box 164 (.t 1)) 1000,o1 4 (.mv (.k (.bool .false))) 1001]) (.seq (.draw 1002
 10 [3,0] [] [o3 5 (.mv (.t 0)) 1002,o3 6 (.nilc (.t 5)) 1003,o3 7 (.faddr 0 (.t 6)) 1004,o3 8 (.faddr 1 (.t 7)) 1005,o3 9 (.load 1 .false (.t 8)) 1006,o3 10 (.faddr 0 (.t 3)) 1007,o3 11 (.faddr 1 (.t 10)) 1008,o3 12 (.load 1 .false (.t 11)) 1009,o3 13 (.call 41 [.t 9, .t 12]) 1010, .mk (.some 4) (.mv (.t 13)) .none 1011 (.some
 [1010]) .true [] .false]) .ret)
def rs91:List IRes:=[.tmp 4]
set_option maxRecDepth 100000 in
theorem comp91:CompAt Tryz.prog 119 1000 ir91 rs91 14:=⟨⟨_,_,1012,Tryz.func119,rfl,by kernel_rfl,by kernel_rfl,rfl⟩⟩
theorem body91:HasBody Tryz.prog 119:=hasBody_of (by kernel_rfl)
def ir92:IC :=
 .reg 1000 11 [o1 6 (.mv (.t 0)) 1000,o1 7 (.mv (.t 0)) 1001,o1 8 (.nilc (.t 7)) 1002,o1 9 (.faddr 2 (.t 8)) 1003,o1 10 (.load 1 .false (.t 9)) 1004,o1 11 (.mv (.t 1)) 1005,o1 12 (.mv (.t 2)) 1006,o1 13 (.call 179 [.t 10, .t 11, .t 12]) 1007,o1 14 (.nilc (.t 6)) 1008,o1 15 (.faddr 2 (.t 14)) 1009,o2 (.store 1 (.t 15) (.t 13)) 1010]
def rs92:List IRes:=[]
set_option maxRecDepth 100000 in
theorem comp92:CompAt Tryz.prog 120 1000 ir92 rs92 16:=⟨⟨_,_,1011,Tryz.func120,rfl,by kernel_rfl,by kernel_rfl,rfl⟩⟩
theorem body92:HasBody Tryz.prog 120:=hasBody_of (by kernel_rfl)
def ir94:IC :=
 .seq (.reg 1000 2 [o1 2 (.box 164 (.t 0)) 1000,o1 3 (.mv (.k (.bool .false))) 1001]) (.seq (.reg 1002 7
 [o1 4 (.faddr 0 (.t 2)) 1002,o1 5 (.faddr 2 (.t 4)) 1003,o1 6 (.load 1 .false (.t 5)) 1004,o1 7 (.faddr 0 (.t 1)) 1005,o1 8 (.load 1 .false (.t 7)) 1006,o1 9 (.bin .eql (.t 6) (.t 8)) 1007,o1 3 (.mv (.t 9)) 1008]) .ret)
def rs94:List IRes:=[.tmp 3]
set_option maxRecDepth 100000 in
theorem comp94:CompAt Tryz.prog 123 1000 ir94 rs94 10:=⟨⟨_,_,1009,Tryz.func123,rfl,by kernel_rfl,by kernel_rfl,rfl⟩⟩
theorem body94:HasBody Tryz.prog 123:=hasBody_of (by kernel_rfl)
def ir95:IC :=
 .seq (.reg 1000 1 [o1 3 (.mv (.k (.bool .false))) 1000]) (.seq (.reg 1001 5 [o1 4 (.mv (.t 0)) 1001,o1 5 (.faddr 0 (.t 1)) 1002,o1 6 (.load 1 .false (.t 5)) 1003,o1 7 (.bin .eql (.t 4) (.t 6)) 1004,o1 3 (.mv (.t 7)) 1005]) .ret)
def rs95:List IRes:=[.tmp 3]
set_option maxRecDepth 100000 in
theorem comp95:CompAt Tryz.prog 125 1000 ir95 rs95 8:=⟨⟨_,_,1006,Tryz.func125,rfl,by kernel_rfl,by kernel_rfl,rfl⟩⟩
theorem body95:HasBody Tryz.prog 125:=hasBody_of (by kernel_rfl)
def ir98:IC :=
 .seq (.reg 1000 2 [o1 3 (.box 276 (.t 1)) 1000,o1 4 (.mv (.k (.bool .false))) 1001]) (.seq (.reg 1002 5
 [o1 5 (.mv (.t 0)) 1002,o1 6 (.mkf 209 [] [.t 3]) 1003,o1 7 (.call 208 [.t 5, .t 6]) 1004,o1 8 (.un .not (.t 7)) 1005,o1 4 (.mv (.t 8)) 1006]) .ret)
def rs98:List IRes:=[.tmp 4]
set_option maxRecDepth 100000 in
theorem comp98:CompAt Tryz.prog 172 1000 ir98 rs98 9:=⟨⟨_,_,1007,Tryz.func172,rfl,by kernel_rfl,by kernel_rfl,rfl⟩⟩
theorem body98:HasBody Tryz.prog 172:=hasBody_of (by kernel_rfl)
def ir100:IC :=
 .seq (.reg 1000 1 [o1 4 (.mv (.k (.bool .false))) 1000]) (.seq (.reg 1001 5 [o1 5 (.mv (.t 0)) 1001,o1 6 (.mv (.t 1)) 1002,o1 7 (.call 210 [.t 5, .t 6]) 1003,o1 8 (.bin .geq (.t 7) (.k (.int .i64 0))) 1004,o1 4 (.mv (.t 8)) 1005]) .ret)
def rs100:List IRes:=[.tmp 4]
set_option maxRecDepth 100000 in
theorem comp100:CompAt Tryz.prog 174 1000 ir100 rs100 9:=⟨⟨_,_,1006,Tryz.func174,rfl,by kernel_rfl,by kernel_rfl,rfl⟩⟩
theorem body100:HasBody Tryz.prog 174:=hasBody_of (by kernel_rfl)
def ir101:IC :=
 .seq (.reg 1000 2 [o1 2 (.box 132 (.t 0)) 1000,o1 3 (.mv (.k (.bool .false))) 1001]) (.seq (.reg 1002 5
 [o1 4 (.load 1 .false (.t 1)) 1002,o1 5 (.load 3 .true (.t 2)) 1003,o1 6 (.callv (.t 4) [.t 5]) 1004,o1 7 (.un .not (.t 6)) 1005,o1 3 (.mv (.t 7)) 1006]) .ret)
def rs101:List IRes:=[.tmp 3]
set_option maxRecDepth 100000 in
theorem comp101:CompAt Tryz.prog 175 1000 ir101 rs101 8:=⟨⟨_,_,1007,Tryz.func175,rfl,by kernel_rfl,by kernel_rfl,rfl⟩⟩
theorem body101:HasBody Tryz.prog 175:=hasBody_of (by kernel_rfl)
def ir102:IC :=
 .seq (.reg 1000 1 [o1 4 (.mv (.k (.bool .false))) 1000]) (.seq (.reg 1001 5 [o1 5 (.mv (.t 0)) 1001,o1 6 (.mv (.t 1)) 1002,o1 7 (.call 183 [.t 5, .t 6]) 1003,o1 8 (.bin .geq (.t 7) (.k (.int .i64 0))) 1004,o1 4 (.mv (.t 8)) 1005]) .ret)
def rs102:List IRes:=[.tmp 4]
set_option maxRecDepth 100000 in
theorem comp102:CompAt Tryz.prog 176 1000 ir102 rs102 9:=⟨⟨_,_,1006,Tryz.func176,rfl,by kernel_rfl,by kernel_rfl,rfl⟩⟩
theorem body102:HasBody Tryz.prog 176:=hasBody_of (by kernel_rfl)
def ir103:IC :=
 .seq (.reg 1000 1 [o1 3 (.mv (.k (.bool .false))) 1000]) (.seq (.reg 1001 5 [o1 4 (.load 1 .false (.t 1)) 1001,o1 5 (.mv (.t 0)) 1002,o1 6 (.callv (.t 4) [.t 5]) 1003,o1 7 (.un .not (.t 6)) 1004,o1 3 (.mv (.t 7)) 1005]) .ret)
def rs103:List IRes:=[.tmp 3]
set_option maxRecDepth 100000 in
theorem comp103:CompAt Tryz.prog 177 1000 ir103 rs103 8:=⟨⟨_,_,1006,Tryz.func177,rfl,by kernel_rfl,by kernel_rfl,rfl⟩⟩
theorem body103:HasBody Tryz.prog 177:=hasBody_of (by kernel_rfl)
def ir105:IC :=
 .seq (.reg 1000 1 [o1 4 (.mv (.k (.bool .false))) 1000]) (.seq (.reg 1001 5 [o1 5 (.mv (.t 0)) 1001,o1 6 (.mv (.t 1)) 1002,o1 7 (.call 182 [.t 5, .t 6]) 1003,o1 8 (.bin .geq (.t 7) (.k (.int .i64 0))) 1004,o1 4 (.mv (.t 8)) 1005]) .ret)
def rs105:List IRes:=[.tmp 4]
set_option maxRecDepth 100000 in
theorem comp105:CompAt Tryz.prog 214 1000 ir105 rs105 9:=⟨⟨_,_,1006,Tryz.func214,rfl,by kernel_rfl,by kernel_rfl,rfl⟩⟩
theorem body105:HasBody Tryz.prog 214:=hasBody_of (by kernel_rfl)
def ir106:IC :=
 .seq (.reg 1000 2 [o1 2 (.box 164 (.t 0)) 1000,o1 3 (.mv (.k (.bool .false))) 1001]) (.seq (.reg 1002 5
 [o1 4 (.load 1 .false (.t 1)) 1002,o1 5 (.load 4 .true (.t 2)) 1003,o1 6 (.callv (.t 4) [.t 5]) 1004,o1 7 (.un .not (.t 6)) 1005,o1 3 (.mv (.t 7)) 1006]) .ret)
def rs106:List IRes:=[.tmp 3]
set_option maxRecDepth 100000 in
theorem comp106:CompAt Tryz.prog 215 1000 ir106 rs106 8:=⟨⟨_,_,1007,Tryz.func215,rfl,by kernel_rfl,by kernel_rfl,rfl⟩⟩
theorem body106:HasBody Tryz.prog 215:=hasBody_of (by kernel_rfl)
def ir107:IC :=
 .seq (.reg 1000 1 [o1 4 (.mv (.k (.bool .false))) 1000]) (.seq (.reg 1001 5 [o1 5 (.mv (.t 0)) 1001,o1 6 (.mv (.t 1)) 1002,o1 7 (.call 229 [.t 5, .t 6]) 1003,o1 8 (.bin .geq (.t 7) (.k (.int .i64 0))) 1004,o1 4 (.mv (.t 8)) 1005]) .ret)
def rs107:List IRes:=[.tmp 4]
set_option maxRecDepth 100000 in
theorem comp107:CompAt Tryz.prog 192 1000 ir107 rs107 9:=⟨⟨_,_,1006,Tryz.func192,rfl,by kernel_rfl,by kernel_rfl,rfl⟩⟩
theorem body107:HasBody Tryz.prog 192:=hasBody_of (by kernel_rfl)
def ir108:IC :=
 .seq (.reg 1000 1 [o1 3 (.mv (.k (.bool .false))) 1000]) (.seq (.reg 1001 5 [o1 4 (.load 1 .false (.t 1)) 1001,o1 5 (.mv (.t 0)) 1002,o1 6 (.callv (.t 4) [.t 5]) 1003,o1 7 (.un .not (.t 6)) 1004,o1 3 (.mv (.t 7)) 1005]) .ret)
def rs108:List IRes:=[.tmp 3]
set_option maxRecDepth 100000 in
theorem comp108:CompAt Tryz.prog 211 1000 ir108 rs108 8:=⟨⟨_,_,1006,Tryz.func211,rfl,by kernel_rfl,by kernel_rfl,rfl⟩⟩
theorem body108:HasBody Tryz.prog 211:=hasBody_of (by kernel_rfl)
def ir111:IC :=
 .seq (.reg 1000 1 [o1 4 (.mv (.k (.int .i64 0))) 1000]) (.seq (.seq (.reg 1001 3 [o1 6 (.mv (.t 0)) 1001,
 o1 7 (.len (.t 6)) 1002,o1 8 (.mv (.k (.int .i64 0))) 1003]) (.block 0 (.loop (.seq (.reg 1004 1 [o1 9 (.bin .lss (.t 8) (.t 7)) 1004]) (.seq (.cond (.t 9) .skip (.exit 0)) (.seq (.block 1 (.seq (.reg 1005 2 [o1 10 (.mv (.t 8)) 1005,o1 5 (.mv (.t 10)) 1006]) (.seq (.reg 1007 6 [o1 11 (.mv (.t 1)) 1007,o1 12 (.mv (.t 0)) 1008,o1 13 (.mv (.t 5)) 1009,o1 14 (.iaddr 4 (.t 12) (.t 13)) 1010,o1 15 (.load 4 .true (.t 14)) 1011,o1 16 (.callv (.t 11) [.t 15]) 1012])
 (.cond (.t 16) (.seq (.reg 1013 2 [o1 17 (.mv (.t 5)) 1013,o1 4 (.mv (.t 17)) 1014]) .ret) .skip))))
 (.reg 1015 2 [o1 18 (.bin .add (.t 8) (.k (.int .i64 1))) 1015,o1 8 (.mv (.t 18)) 1016]))))))) (.seq
 (.reg 1017 1 [o1 4 (.mv (.k (.int .i64 (-1)))) 1017]) .ret))
def rs111:List IRes:=[.tmp 4]
set_option maxRecDepth 100000 in
theorem comp111:CompAt Tryz.prog 182 1000 ir111 rs111 19:=⟨⟨_,_,1018,Tryz.func182,rfl,by kernel_rfl,by kernel_rfl,rfl⟩⟩
theorem body111:HasBody Tryz.prog 182:=hasBody_of (by kernel_rfl)
def ir114:IC :=
 .seq (.reg 1000 1 [o1 4 (.mv (.k (.bool .false))) 1000]) (.seq (.reg 1001 5 [o1 5 (.mv (.t 0)) 1001,o1 6 (.mv (.t 1)) 1002,o1 7 (.call 242 [.t 5, .t 6]) 1003,o1 8 (.bin .geq (.t 7) (.k (.int .i64 0))) 1004,o1 4 (.mv (.t 8)) 1005]) .ret)
def rs114:List IRes:=[.tmp 4]
set_option maxRecDepth 100000 in
theorem comp114:CompAt Tryz.prog 208 1000 ir114 rs114 9:=⟨⟨_,_,1006,Tryz.func208,rfl,by kernel_rfl,by kernel_rfl,rfl⟩⟩
theorem body114:HasBody Tryz.prog 208:=hasBody_of (by kernel_rfl)
def ir115:IC :=
 .seq (.reg 1000 1 [o1 3 (.mv (.k (.bool .false))) 1000]) (.seq (.reg 1001 5 [o1 4 (.load 1 .false (.t 1)) 1001,o1 5 (.mv (.t 0)) 1002,o1 6 (.callv (.t 4) [.t 5]) 1003,o1 7 (.un .not (.t 6)) 1004,o1 3 (.mv (.t 7)) 1005]) .ret)
def rs115:List IRes:=[.tmp 3]
set_option maxRecDepth 100000 in
theorem comp115:CompAt Tryz.prog 209 1000 ir115 rs115 8:=⟨⟨_,_,1006,Tryz.func209,rfl,by kernel_rfl,by kernel_rfl,rfl⟩⟩
theorem body115:HasBody Tryz.prog 209:=hasBody_of (by kernel_rfl)
def ir116:IC :=
 .seq (.reg 1000 1 [o1 4 (.mv (.k (.int .i64 0))) 1000]) (.seq (.seq (.reg 1001 3 [o1 6 (.mv (.t 0)) 1001,
 o1 7 (.len (.t 6)) 1002,o1 8 (.mv (.k (.int .i64 0))) 1003]) (.block 0 (.loop (.seq (.reg 1004 1 [o1 9 (.bin .lss (.t 8) (.t 7)) 1004]) (.seq (.cond (.t 9) .skip (.exit 0)) (.seq (.block 1 (.seq (.reg 1005 2 [o1 10 (.mv (.t 8)) 1005,o1 5 (.mv (.t 10)) 1006]) (.seq (.reg 1007 6 [o1 11 (.mv (.t 1)) 1007,o1 12 (.mv (.t 0)) 1008,o1 13 (.mv (.t 5)) 1009,o1 14 (.iaddr 3 (.t 12) (.t 13)) 1010,o1 15 (.load 3 .true (.t 14)) 1011,o1 16 (.callv (.t 11) [.t 15]) 1012])
 (.cond (.t 16) (.seq (.reg 1013 2 [o1 17 (.mv (.t 5)) 1013,o1 4 (.mv (.t 17)) 1014]) .ret) .skip))))
 (.reg 1015 2 [o1 18 (.bin .add (.t 8) (.k (.int .i64 1))) 1015,o1 8 (.mv (.t 18)) 1016]))))))) (.seq
 (.reg 1017 1 [o1 4 (.mv (.k (.int .i64 (-1)))) 1017]) .ret))
def rs116:List IRes:=[.tmp 4]
set_option maxRecDepth 100000 in
theorem comp116:CompAt Tryz.prog 210 1000 ir116 rs116 19:=⟨⟨_,_,1018,Tryz.func210,rfl,by kernel_rfl,by kernel_rfl,rfl⟩⟩
theorem body116:HasBody Tryz.prog 210:=hasBody_of (by kernel_rfl)
def ir117:IC :=
 .seq (.reg 1000 1 [o1 4 (.mv (.k (.int .i64 0))) 1000]) (.seq (.seq (.reg 1001 3 [o1 6 (.mv (.t 0)) 1001,
 o1 7 (.len (.t 6)) 1002,o1 8 (.mv (.k (.int .i64 0))) 1003]) (.block 0 (.loop (.seq (.reg 1004 1 [o1 9 (.bin .lss (.t 8) (.t 7)) 1004]) (.seq (.cond (.t 9) .skip (.exit 0)) (.seq (.block 1 (.seq (.reg 1005 2 [o1 10 (.mv (.t 8)) 1005,o1 5 (.mv (.t 10)) 1006]) (.seq (.reg 1007 6 [o1 11 (.mv (.t 1)) 1007,o1 12 (.mv (.t 0)) 1008,o1 13 (.mv (.t 5)) 1009,o1 14 (.iaddr 1 (.t 12) (.t 13)) 1010,o1 15 (.load 1 .false (.t 14)) 1011,o1 16 (.callv (.t 11) [.t 15]) 1012])
 (.cond (.t 16) (.seq (.reg 1013 2 [o1 17 (.mv (.t 5)) 1013,o1 4 (.mv (.t 17)) 1014]) .ret) .skip))))
 (.reg 1015 2 [o1 18 (.bin .add (.t 8) (.k (.int .i64 1))) 1015,o1 8 (.mv (.t 18)) 1016]))))))) (.seq
 (.reg 1017 1 [o1 4 (.mv (.k (.int .i64 (-1)))) 1017]) .ret))
def rs117:List IRes:=[.tmp 4]
set_option maxRecDepth 100000 in
theorem comp117:CompAt Tryz.prog 229 1000 ir117 rs117 19:=⟨⟨_,_,1018,Tryz.func229,rfl,by kernel_rfl,by kernel_rfl,rfl⟩⟩
theorem body117:HasBody Tryz.prog 229:=hasBody_of (by kernel_rfl)
def ir131:IC :=
 .seq (.reg 1000 1 [o1 4 (.mv (.k (.int .i64 0))) 1000]) (.seq (.seq (.reg 1001 3 [o1 6 (.mv (.t 0)) 1001,
 o1 7 (.len (.t 6)) 1002,o1 8 (.mv (.k (.int .i64 0))) 1003]) (.block 0 (.loop (.seq (.reg 1004 1 [o1 9 (.bin .lss (.t 8) (.t 7)) 1004]) (.seq (.cond (.t 9) .skip (.exit 0)) (.seq (.block 1 (.seq (.reg 1005 2 [o1 10 (.mv (.t 8)) 1005,o1 5 (.mv (.t 10)) 1006]) (.seq (.reg 1007 6 [o1 11 (.mv (.t 1)) 1007,o1 12 (.mv (.t 0)) 1008,o1 13 (.mv (.t 5)) 1009,o1 14 (.iaddr 1 (.t 12) (.t 13)) 1010,o1 15 (.load 1 .false (.t 14)) 1011,o1 16 (.callv (.t 11) [.t 15]) 1012])
 (.cond (.t 16) (.seq (.reg 1013 2 [o1 17 (.mv (.t 5)) 1013,o1 4 (.mv (.t 17)) 1014]) .ret) .skip))))
 (.reg 1015 2 [o1 18 (.bin .add (.t 8) (.k (.int .i64 1))) 1015,o1 8 (.mv (.t 18)) 1016]))))))) (.seq
 (.reg 1017 1 [o1 4 (.mv (.k (.int .i64 (-1)))) 1017]) .ret))
def rs131:List IRes:=[.tmp 4]
set_option maxRecDepth 100000 in
theorem comp131:CompAt Tryz.prog 242 1000 ir131 rs131 19:=⟨⟨_,_,1018,Tryz.func242,rfl,by kernel_rfl,by kernel_rfl,rfl⟩⟩
theorem body131:HasBody Tryz.prog 242:=hasBody_of (by kernel_rfl)

end Go.Proofs.YtefnikpoimaiiaaGreat

namespace Go.Proofs.YtefnikpoimaiiaaGreat
open Go.Pal
theorem body16:HasBody Tryz.prog 25:=hasBody_of (by kernel_rfl)
def ir43:IC :=
 .seq (.reg 0 2 [o1 1 (.box 152 (.t 0)) 0,o1 2 (.mv (.k .nilFunc)) 1]) (.seq (.reg 2 3 [o1 5 .mkm 2,o1 3 (.alloc 207 [.map .none]) 3,o2 (.store 1 (.t 3) (.t 5)) 4]) (.seq
 (.reg 5 1 [o1 4 (.alloc 155 [.nilFunc]) 5]) (.seq (.reg 6 2 [o1 6 (.mkf 89 [] [.t 3, .t 1, .t 4]) 6,o2 (.store 1 (.t 4) (.t 6)) 7]) (.seq (.reg 8 2 [o1 7 (.load 1 .false (.t 4)) 8,o1 2 (.mv (.t 7)) 9]) .ret))))
def rs43:List IRes:=[.tmp 2]
set_option maxRecDepth 100000 in
theorem comp43:Comp Tryz.prog 58 ir43 rs43 8:=⟨⟨_,_,10,Tryz.func58,rfl,by kernel_rfl,by kernel_rfl,rfl⟩⟩
theorem body43:HasBody Tryz.prog 58:=hasBody_of (by kernel_rfl)
def ir44:IC :=
 .seq (.reg 0 2 [o1 1 (.box 152 (.t 0)) 0,o1 2 (.mv (.k .nilFunc)) 1]) (.seq (.reg 2 2 [o1 3 (.mkf 91 [] [.t 1]) 2,o1 2 (.mv (.t 3)) 3]) .ret)
def rs44:List IRes:=[.tmp 2]
set_option maxRecDepth 100000 in
theorem comp44:Comp Tryz.prog 59 ir44 rs44 4:=⟨⟨_,_,4,Tryz.func59,rfl,by kernel_rfl,by kernel_rfl,rfl⟩⟩
theorem body44:HasBody Tryz.prog 59:=hasBody_of (by kernel_rfl)
def ir45:IC :=
 .seq (.reg 0 2 [o1 2 (.box 84 (.t 0)) 0,o1 4 (.alloc 89 [.slice .none 0 0, .int .i64 0, .int .i64 0, .slice .none 0 0]) 1]) (.seq (.reg 2 5 [o1 9 (.mv (.t 1)) 2,o1 10 (.call 80 [.t 9]) 3,o1 11 (.bld [(0,1),(1,1),(2,1),(3,1)] [.slice .none 0 0, .int .i64 0, .int .i64 0, .slice .none 0 0] [(0, .t 10),(1, .k (.int .i64 (-1))),(2, .k (.int .i64 (-1))),(3, .k (.slice .none 0 0))]) 4,o1 5 (.alloc 89 [.slice .none 0 0, .int .i64 0, .int .i64 0, .slice .none 0 0]) 5,o2 (.store 4 (.t 5) (.t 11)) 6]) (.seq (.seq (.reg 7 3 [o1 12 (.mv (.t 1)) 7,o1 13 (.len (.t 12)) 8,o1 14 (.mv (.k (.int .i64 0))) 9]) (.block 0 (.loop (.seq (.reg 10 1 [o1 15 (.bin .lss (.t 14) (.t 13)) 10]) (.seq (.cond (.t 15) .skip (.exit 0)) (.seq (.block 1 (.seq (.reg 11 5 [o1 16 (.mv (.t 14)) 11,o1 17 (.iaddr 1 (.t 12) (.t 14)) 12,o1 18 (.load 1 .false (.t 17)) 13,o1 6 (.mv (.t 16)) 14,o1 7 (.mv (.t 18)) 15]) (.seq (.reg 16 7 [o1 19 (.faddr 0 (.t 2)) 16,o1 20 (.load 1 .false (.t 19)) 17,o1 21 (.mv (.t 7)) 18,o1 22 (.iaddr 3 (.t 20) (.t 21)) 19,o1 23 (.load 3 .true (.t 22)) 20, .mk (.some 8) (.alloc 132 [.string (ByteArray.mk (Array.mk [])), .int .i64 0,
 .int .i64 0]) .none 21 .none .false [] .false,o2 (.store 3 (.t 8) (.t 23)) 22]) (.seq (.seq (.reg 23 2 [o1 24 (.mv (.t 6)) 23,o1 25 (.bin .eql (.t 24) (.k (.int .i64 0))) 24]) (.cond (.t 25) (.reg 25 4 [o1 26 (.faddr 1 (.t 8)) 25,o1 27 (.load 1 .false (.t 26)) 26,o1 28 (.faddr 1 (.t 5)) 27,o2 (.store 1 (.t 28) (.t 27)) 28]) .skip)) (.seq (.reg 29 4 [o1 29 (.faddr 1 (.t 8)) 29,o1 30 (.load 1 .false (.t 29)) 30,o1 31 (.faddr 2 (.t 5)) 31,o2 (.store 1 (.t 31) (.t 30)) 32]) (.reg 33 8 [o1 32 (.faddr 3 (.t 5)) 33,o1 33 (.load 1 .false (.t 32)) 34,o1 34 (.faddr 2 (.t 8)) 35,o1 35 (.load 1 .false (.t 34)) 36,o1 36 (.bsl 3 1 1 [.int .i64 0] [(0, .t 35)]) 37,o1 37 (.app 3 1 8 (.t 33) (.t 36)) 38,o1 38 (.faddr 3 (.t 5)) 39,o2 (.store 1 (.t 38) (.t 37)) 40])))))) (.reg 41 2 [o1 39 (.bin .add (.t 14) (.k (.int .i64 1))) 41,o1 14 (.mv (.t 39)) 42]))))))) (.seq (.reg 43 5 [o1 40 (.faddr 3 (.t 5)) 43,o1 41 (.load 1 .false (.t 40)) 44,o1 42 (.cut 90 (.t 41) []) 45,o1 43 (.faddr 3 (.t 5)) 46,
 o2 (.store 1 (.t 43) (.t 42)) 47]) (.seq (.reg 48 2 [o1 44 (.load 4 .true (.t 5)) 48,o2 (.store 4 (.t 4) (.t 44)) 49]) .ret))))
def rs45:List IRes:=[.cell 4 4 .true]
set_option maxRecDepth 100000 in
theorem comp45:Comp Tryz.prog 60 ir45 rs45 45:=⟨⟨_,_,50,Tryz.func60,rfl,by kernel_rfl,by kernel_rfl,rfl⟩⟩
theorem body45:HasBody Tryz.prog 60:=hasBody_of (by kernel_rfl)
def rs62:List IRes:=[.cell 6 2 .true]
def rs63:List IRes:=[.cell 0 2 .true]
def ir64:IC :=
 .seq (.reg 0 1 [o1 2 (.mv (.k (.slice .none 0 0))) 0]) (.seq (.seq (.reg 1 2 [o1 3 (.mv (.t 0)) 1,o1 4 (.pur (.bin .eql 22) [.t 3, .k (.slice .none 0 0)]) 2]) (.cond (.t 4) (.seq (.reg 3 1 [o1 2 (.mv (.k (.slice .none 0 0))) 3]) .ret) .skip)) (.seq (.reg 4 4 [o1 5 (.bsl 9 1 0 [] []) 4,o1 6 (.mv (.t 0)) 5,
 o1 7 (.app 9 1 16 (.t 5) (.t 6)) 6,o1 2 (.mv (.t 7)) 7]) .ret))
def rs64:List IRes:=[.tmp 2]
def ir70:IC :=
 .seq (.reg 0 2 [o1 4 (.box 164 (.t 0)) 0,o1 5 (.mv (.k (.slice .none 0 0))) 1]) (.seq (.seq (.reg 2 4
 [o1 11 (.faddr 0 (.t 4)) 2,o1 12 (.faddr 1 (.t 11)) 3,o1 13 (.load 1 .false (.t 12)) 4,o1 14 (.bin .geq (.t 13) (.k (.int .i64 0))) 5]) (.cond (.t 14) (.seq (.reg 6 5 [o1 15 (.faddr 0 (.t 4)) 6,o1 16 (.faddr 1 (.t 15)) 7,o1 17 (.load 1 .false (.t 16)) 8,o1 18 (.bsl 3 1 1 [.int .i64 0] [(0, .t 17)]) 9,o1 5 (.mv (.t 18)) 10]) .ret) .skip)) (.seq (.seq (.reg 11
 10 [o1 20 (.load 1 .false (.t 1)) 11,o1 21 (.faddr 0 (.t 4)) 12,o1 22 (.faddr 2 (.t 21)) 13,o1 23 (.load 1 .false (.t 22)) 14,o1 24 (.lkp 3 (.slice .none 0 0) .true (.t 20) (.t 23)) 15,o1 19 (.mv (.t 24)) 16,o1 25 (.ext (.t 19) 0) 17,o1 26 (.ext (.t 19) 1) 18,o1 6 (.mv (.t 25)) 19,o1 7 (.mv (.t 26)) 20]) (.seq (.reg 21 1
 [o1 27 (.mv (.t 7)) 21]) (.cond (.t 27) (.seq (.reg 22 2 [o1 28 (.mv (.t 6)) 22,o1 5 (.mv (.t 28)) 23]) .ret) .skip))) (.seq (.reg 24 1 [o1 8 (.mv (.k (.slice .none 0 0))) 24]) (.seq (.seq (.reg 25 6 [o1 29 (.load 1 .false (.t 2)) 25,o1 30 (.nilc (.t 29)) 26,o1 31 (.faddr 2 (.t 30)) 27,o1 32 (.load 1 .false (.t 31)) 28,o1 33 (.len (.t 32)) 29,o1 34 (.mv (.k (.int .i64 0))) 30]) (.block 0 (.loop (.seq (.reg 31 1 [o1 35 (.bin .lss (.t 34) (.t 33)) 31]) (.seq (.cond
 (.t 35) .skip (.exit 0)) (.seq (.block 1 (.seq (.reg 32 4 [o1 36 (.iaddr 4 (.t 32) (.t 34)) 32,o1 37 (.load 4 .true (.t 36)) 33, .mk (.some 10) (.alloc 164 [.string (ByteArray.mk (Array.mk [])), .int .i64 0, .int .i64 0, .int .i64 0]) .none 34 .none .false [] .false,o2 (.store 4 (.t 10) (.t 37)) 35]) (.seq (.reg 36 6 [o1 38 (.faddr 3 (.t 10)) 36,o1 39 (.load 1 .false (.t 38)) 37,o1 40 (.faddr 0 (.t 4)) 38,o1 41 (.faddr 2 (.t 40)) 39,o1 42 (.load 1 .false (.t 41)) 40,o1 43 (.bin .eql (.t 39) (.t 42)) 41]) (.cond (.t 43) (.reg 42 6 [o1 44 (.mv (.t 8)) 42,o1 45 (.load 1 .false (.t 3)) 43,o1 46 (.load 4 .true (.t 10)) 44,o1 47 (.callv (.t 45) [.t 46]) 45,o1 48 (.app 3 1 8 (.t 44) (.t 47)) 46,o1 8 (.mv (.t 48)) 47]) .skip)))) (.reg 48 2 [o1 49 (.bin .add (.t 34) (.k (.int .i64 1))) 48,o1 34 (.mv (.t 49)) 49]))))))) (.seq (.drawd 50 7 [] [] [] [.some [1], .none, .none, .some [4], .none, .some [8], .none] [(0,o3 50 (.load 1 .false (.t 1)) 50),(1,o3 51 (.faddr 0 (.t 4)) 51),(2, .mk (.some 52) (.faddr 2 (.t 51)) .none 52
 (.some []) .true [1] .false),(3, .mk (.some 53) (.load 1 .false (.t 52)) .none 53 (.some []) .true [1,2] .false),(4,o3 54 (.mv (.t 8)) 54),(5, .mk (.some 55) (.cut 90 (.t 54) []) .none 55 (.some []) .true [4] .true),(6, .mk .none (.mup 3 (.t 50) (.t 53) (.t 55)) .none 56 (.some []) .true [4,5,2,1,3,0]
 .false)]) (.seq (.reg 57 6 [o1 56 (.load 1 .false (.t 1)) 57,o1 57 (.faddr 0 (.t 4)) 58,o1 58 (.faddr 2 (.t 57)) 59,o1 59 (.load 1 .false (.t 58)) 60,o1 60 (.lkp 3 (.slice .none 0 0) .false (.t 56) (.t 59)) 61,o1 5 (.mv (.t 60)) 62]) .ret))))))
def rs70:List IRes:=[.tmp 5]
set_option maxRecDepth 100000 in
theorem comp70:Comp Tryz.prog 89 ir70 rs70 61:=⟨⟨_,_,63,Tryz.func89,rfl,by kernel_rfl,by kernel_rfl,rfl⟩⟩
theorem body70:HasBody Tryz.prog 89:=hasBody_of (by kernel_rfl)
theorem body71:HasBody Tryz.prog 90:=hasBody_of (by kernel_rfl)
def ir72:IC :=
 .seq (.reg 0 1 [o1 3 (.mv (.k (.int .i64 0))) 0]) (.seq (.reg 1 6 [o1 6 (.load 1 .false (.t 1)) 1,o1 7 (.nilc (.t 6)) 2,o1 8 (.faddr 2 (.t 7)) 3,o1 9 (.load 1 .false (.t 8)) 4,o1 10 (.len (.t 9)) 5,o1 11 (.mv (.k (.int .i64 0))) 6]) (.block 0 (.loop (.seq (.reg 7 1
 [o1 12 (.bin .lss (.t 11) (.t 10)) 7]) (.seq (.cond (.t 12) .skip (.exit 0)) (.seq (.block 1 (.seq (.reg 8 6 [o1 13 (.mv (.t 11)) 8,o1 14 (.iaddr 4 (.t 9) (.t 11)) 9,o1 15 (.load 4 .true (.t 14)) 10,
 .mk (.some 5) (.alloc 164 [.string (ByteArray.mk (Array.mk [])), .int .i64 0, .int .i64 0, .int .i64 0]) .none 11 .none .false [] .false,o1 4 (.mv (.t 13)) 12,o2 (.store 4 (.t 5) (.t 15)) 13]) (.seq (.seq (.reg 14 3 [o1 16 (.faddr 3 (.t 5)) 14,o1 17 (.load 1 .false (.t 16)) 15,o1 18 (.bin .neq (.t 17) (.k (.int .i64 0))) 16]) (.cond (.t
 18) (.exit 1) .skip)) (.seq (.seq (.reg 17 5 [o1 19 (.mv (.t 0)) 17,o1 20 (.mv (.t 3)) 18,o1 21 (.mv (.t 4)) 19,o1 22 (.callv (.t 19) [.t 20, .t 21]) 20,o1 23 (.un .not (.t 22)) 21]) (.cond (.t 23) .ret .skip)) (.reg 22 3 [o1 24 (.mv (.t 3)) 22,o1 25 (.bin .add (.t 24) (.k (.int .i64 1))) 23,o1 3 (.mv (.t 25)) 24]))))) (.reg 25 2 [o1 26 (.bin .add (.t 11) (.k (.int .i64 1))) 25,o1 11 (.mv (.t 26)) 26])))))))
def rs72:List IRes:=[]
set_option maxRecDepth 100000 in
theorem comp72:Comp Tryz.prog 91 ir72 rs72 27:=⟨⟨_,_,27,Tryz.func91,rfl,by kernel_rfl,by kernel_rfl,rfl⟩⟩
theorem body72:HasBody Tryz.prog 91:=hasBody_of (by kernel_rfl)
def ir73:IC :=
 .seq (.reg 0 1 [o1 2 (.mv (.k (.slice .none 0 0))) 0]) (.seq (.seq (.reg 1 2 [o1 3 (.mv (.t 0)) 1,o1 4 (.pur (.bin .eql 30) [.t 3, .k (.slice .none 0 0)]) 2]) (.cond (.t 4) (.seq (.reg 3 1 [o1 2 (.mv (.k (.slice .none 0 0))) 3]) .ret) .skip)) (.seq (.reg 4 4 [o1 5 (.bsl 3 1 0 [] []) 4,o1 6 (.mv (.t 0)) 5,
 o1 7 (.app 3 1 8 (.t 5) (.t 6)) 6,o1 2 (.mv (.t 7)) 7]) .ret))
def rs73:List IRes:=[.tmp 2]
set_option maxRecDepth 100000 in
theorem comp73:Comp Tryz.prog 80 ir73 rs73 8:=⟨⟨_,_,8,Tryz.func80,rfl,by kernel_rfl,by kernel_rfl,rfl⟩⟩
theorem body73:HasBody Tryz.prog 80:=hasBody_of (by kernel_rfl)
def ir77:IC :=
 .seq (.reg 0 1 [o1 6 (.mv (.k (.bool .false))) 0]) (.seq (.reg 1 9 [o1 7 (.mv (.t 1)) 1,o1 8 (.mv (.t 0)) 2,o1 9 (.bin .leq (.t 7) (.t 8)) 3,o1 10 (.mv (.t 9)) 4,
 .mk (.some 11) (.mv (.t 0)) (.some (10, .true)) 5 .none .false [] .false, .mk (.some 12) (.mv (.t 2)) (.some (10, .true)) 6 .none .false [] .false, .mk (.some 13) (.bin .leq (.t
 11) (.t 12)) (.some (10, .true)) 7 .none .false [] .false,o1 14 (.pick (.t 10) (.t 13) (.k (.bool .false))) 8,o1 6 (.mv (.t 14)) 9]) .ret)
def rs77:List IRes:=[.tmp 6]
set_option maxRecDepth 100000 in
theorem comp77:Comp Tryz.prog 112 ir77 rs77 15:=⟨⟨_,_,10,Tryz.func112,rfl,by kernel_rfl,by kernel_rfl,rfl⟩⟩
theorem body77:HasBody Tryz.prog 112:=hasBody_of (by kernel_rfl)
def ir82:IC :=
 .seq (.reg 0 1 [o1 4 (.mv (.k (.bool .false))) 0]) (.seq (.reg 1 5 [o1 5 (.mv (.t 0)) 1,o1 6 (.mv (.t 1)) 2,o1 7 (.call 72 [.t 5, .t 6]) 3,o1 8 (.bin .geq (.t 7) (.k (.int .i64 0))) 4,o1 4 (.mv (.t 8)) 5]) .ret)
def rs82:List IRes:=[.tmp 4]
set_option maxRecDepth 100000 in
theorem comp82:Comp Tryz.prog 41 ir82 rs82 9:=⟨⟨_,_,6,Tryz.func41,rfl,by kernel_rfl,by kernel_rfl,rfl⟩⟩
theorem body82:HasBody Tryz.prog 41:=hasBody_of (by kernel_rfl)
def ir88:IC :=
 .seq (.reg 0 1 [o1 2 (.alloc 30 [.slice .none 0 0]) 0]) (.seq (.seq (.reg 1 2 [o1 5 (.mv (.t 0)) 1,o1 6 (.call 59 [.t 5]) 2]) (.block 0 (.range (.t 6) [7,8] (.reg 3 1 [o1 4 (.mv (.t 8)) 3]) (.block 1 (.reg
 4 5 [o1 9 (.load 1 .false (.t 2)) 4,o1 10 (.mv (.t 4)) 5,o1 11 (.bsl 3 1 1 [.int .i64 0] [(0, .t 10)]) 6,o1 12 (.app 3 1 8 (.t 9) (.t 11)) 7,o2 (.store 1 (.t 2) (.t 12)) 8]))))) (.seq (.reg 9 2 [o1 13 (.load 1 .false (.t 2)) 9,o2 (.store 1 (.t 2) (.t 13)) 10])
 .ret))
def rs88:List IRes:=[.cell 2 1 .false]
set_option maxRecDepth 100000 in
theorem comp88:Comp Tryz.prog 116 ir88 rs88 14:=⟨⟨_,_,11,Tryz.func116,rfl,by kernel_rfl,by kernel_rfl,rfl⟩⟩
theorem body88:HasBody Tryz.prog 116:=hasBody_of (by kernel_rfl)
def ir90:IC :=
 .seq (.reg 0 2 [o1 2 (.mv (.t 0)) 0,o1 3 (.un .not (.t 2)) 1]) (.cond (.t 3) (.reg 2 3 [o1 4 (.bld [] [] []) 2,o1 5 (.pur (.mki 203) [.t 4]) 3,o2 (.lenS (.k (.bool .true))) 4]) .skip)
def rs90:List IRes:=[]
set_option maxRecDepth 100000 in
theorem comp90:Comp Tryz.prog 117 ir90 rs90 6:=⟨⟨_,_,5,Tryz.func117,rfl,by kernel_rfl,by kernel_rfl,rfl⟩⟩
theorem body90:HasBody Tryz.prog 117:=hasBody_of (by kernel_rfl)
def ir99:IC :=
 .seq (.reg 0 1 [o1 2 (.mv (.k (.bool .false))) 0]) (.seq (.reg 1 7 [o1 3 (.mv (.t 0)) 1,o1 4 (.bin .leq (.k (.int .u8 33)) (.t 3)) 2,o1 5 (.mv (.t 4)) 3, .mk (.some 6) (.mv (.t 0)) (.some (5, .true)) 4
 .none .false [] .false, .mk (.some 7) (.bin .leq (.t 6) (.k (.int .u8 126))) (.some (5, .true)) 5 .none .false [] .false,o1 8 (.pick (.t 5) (.t 7) (.k (.bool .false))) 6,o1 2 (.mv (.t 8)) 7]) .ret)
def rs99:List IRes:=[.tmp 2]
set_option maxRecDepth 100000 in
theorem comp99:Comp Tryz.prog 173 ir99 rs99 9:=⟨⟨_,_,8,Tryz.func173,rfl,by kernel_rfl,by kernel_rfl,rfl⟩⟩
theorem body99:HasBody Tryz.prog 173:=hasBody_of (by kernel_rfl)
def ir104:IC :=
 .seq (.reg 0 1 [o1 4 (.mv (.k (.int .i64 0))) 0]) (.seq (.seq (.reg 1 3 [o1 6 (.mv (.t 0)) 1,o1 7 (.len (.t 6)) 2,o1 8 (.mv (.k (.int .i64 0))) 3]) (.block 0 (.loop (.seq (.reg 4 1 [o1 9 (.bin .lss (.t 8) (.t 7)) 4]) (.seq (.cond (.t 9) .skip (.exit 0)) (.seq (.block 1 (.seq (.reg 5 2 [o1 10 (.mv (.t 8)) 5,
 o1 5 (.mv (.t 10)) 6]) (.seq (.reg 7 6 [o1 11 (.mv (.t 1)) 7,o1 12 (.mv (.t 0)) 8,o1 13 (.mv (.t 5)) 9,o1 14 (.iaddr 1 (.t 12) (.t 13)) 10,o1 15 (.load 1 .false (.t 14)) 11,o1 16 (.bin .eql (.t 11) (.t 15)) 12]) (.cond (.t 16) (.seq (.reg 13 2 [o1 17 (.mv (.t 5)) 13,o1 4 (.mv (.t 17)) 14]) .ret) .skip)))) (.reg 15 2 [o1 18 (.bin .add (.t 8) (.k (.int .i64 1))) 15,o1 8 (.mv (.t 18)) 16]))))))) (.seq (.reg 17 1 [o1 4 (.mv (.k (.int .i64 (-1)))) 17]) .ret))
def rs104:List IRes:=[.tmp 4]
set_option maxRecDepth 100000 in
theorem comp104:Comp Tryz.prog 72 ir104 rs104 19:=⟨⟨_,_,18,Tryz.func72,rfl,by kernel_rfl,by kernel_rfl,rfl⟩⟩
theorem body104:HasBody Tryz.prog 72:=hasBody_of (by kernel_rfl)

end Go.Proofs.YtefnikpoimaiiaaGreat

namespace Go.Proofs.YtefnikpoimaiiaaGreat
open Go.Pal
def rs37:List IRes:=[.tmp 4, .tmp 5]
def ir55:IC :=
 .seq (.reg 1000 1 [o1 4 (.mv (.k (.slice .none 0 0))) 1000]) (.seq (.reg 1001 4 [o1 8 (.mv (.t 0)) 1001,
 o1 9 (.mv (.t 1)) 1002,o1 10 (.call 183 [.t 8, .t 9]) 1003,o1 5 (.mv (.t 10)) 1004]) (.seq (.seq (.reg 1005 2 [o1 11 (.mv (.t 5)) 1005,o1 12 (.bin .eql (.t 11) (.k (.int .i64 (-1)))) 1006]) (.cond (.t 12) (.seq (.reg 1007 2 [o1 13 (.mv (.t 0)) 1007,o1 4 (.mv (.t 13)) 1008]) .ret) .skip)) (.seq (.seq (.reg 1009 3 [o1 14 (.mv (.t 5)) 1009,o1 15 (.bin .add (.t 14) (.k (.int .i64 1))) 1010,o1 6 (.mv (.t 15)) 1011]) (.block 0 (.loop (.seq (.seq (.reg 1012 4 [o1 16 (.mv (.t 6)) 1012,o1 17 (.mv (.t 0)) 1013,o1 18 (.len (.t 17)) 1014,o1 19 (.bin .lss (.t 16) (.t 18)) 1015]) (.cond (.t 19) .skip (.exit 0))) (.seq (.block 1 (.seq (.reg 1016 5 [o1 22 (.mv (.t 0)) 1016,
 o1 23 (.mv (.t 6)) 1017,o1 24 (.iaddr 1 (.t 22) (.t 23)) 1018,o1 25 (.load 1 .false (.t 24)) 1019,o1 7 (.mv (.t 25)) 1020]) (.seq (.reg 1021 4 [o1 26 (.mv (.t 1)) 1021,o1 27 (.mv (.t 7)) 1022,o1 28 (.callv (.t 26) [.t 27]) 1023,o1 29 (.un .not (.t 28)) 1024]) (.cond (.t 29) (.seq (.reg 1025 5 [o1 30 (.mv (.t 0)) 1025,o1 31 (.mv (.t 5)) 1026,o1 32 (.mv (.t 7)) 1027,o1 33 (.iaddr 1 (.t 30) (.t 31)) 1028,o2 (.store 1 (.t 33) (.t 32)) 1029]) (.reg 1030 3 [o1 34 (.mv (.t 5)) 1030,o1 35 (.bin .add (.t 34) (.k (.int .i64 1))) 1031,o1 5 (.mv (.t 35)) 1032])) .skip)))) (.reg 1033 3 [o1 20 (.mv (.t 6)) 1033,o1 21 (.bin .add (.t 20) (.k (.int .i64 1))) 1034,o1 6 (.mv (.t 21)) 1035]))))))
 (.seq (.reg 1036 4 [o1 36 (.mv (.t 0)) 1036,o1 37 (.mv (.t 5)) 1037,o1 38 (.slc 1 (.t 36) (.some (.t 37)) .none .none) 1038,o2 (.clr [.int .i64 0] (.t 38)) 1039]) (.seq (.reg 1040 4 [o1 39 (.mv (.t 0)) 1040,o1 40 (.mv (.t 5)) 1041,o1 41 (.slc 1 (.t 39) .none (.some (.t 40)) .none) 1042,o1 4 (.mv (.t 41)) 1043]) .ret)))))
def rs55:List IRes:=[.tmp 4]
set_option maxRecDepth 100000 in
theorem comp55:CompAt Tryz.prog 124 1000 ir55 rs55 42:=⟨⟨_,_,1044,Tryz.func124,rfl,by kernel_rfl,by kernel_rfl,rfl⟩⟩
theorem body55:HasBody Tryz.prog 124:=hasBody_of (by kernel_rfl)

def ir93:IC :=
 .seq (.reg 1000 1 [o1 4 (.mv (.k (.slice .none 0 0))) 1000]) (.seq (.reg 1001 4 [o1 8 (.mv (.t 0)) 1001,
 o1 9 (.mv (.t 1)) 1002,o1 10 (.call 182 [.t 8, .t 9]) 1003,o1 5 (.mv (.t 10)) 1004]) (.seq (.seq (.reg 1005 2 [o1 11 (.mv (.t 5)) 1005,o1 12 (.bin .eql (.t 11) (.k (.int .i64 (-1)))) 1006]) (.cond (.t 12) (.seq (.reg 1007 2 [o1 13 (.mv (.t 0)) 1007,o1 4 (.mv (.t 13)) 1008]) .ret) .skip)) (.seq (.seq (.reg 1009 3 [o1 14 (.mv (.t 5)) 1009,o1 15 (.bin .add (.t 14) (.k (.int .i64 1))) 1010,o1 6 (.mv (.t 15)) 1011]) (.block 0 (.loop (.seq (.seq (.reg 1012 4 [o1 16 (.mv (.t 6)) 1012,o1 17 (.mv (.t 0)) 1013,o1 18 (.len (.t 17)) 1014,o1 19 (.bin .lss (.t 16) (.t 18)) 1015]) (.cond (.t 19) .skip (.exit 0))) (.seq (.block 1 (.seq (.reg 1016 6 [o1 22 (.mv (.t 0)) 1016,
 o1 23 (.mv (.t 6)) 1017,o1 24 (.iaddr 4 (.t 22) (.t 23)) 1018,o1 25 (.load 4 .true (.t 24)) 1019, .mk (.some 7) (.alloc 164 [.string (ByteArray.mk (Array.mk [])), .int .i64 0, .int .i64 0, .int .i64 0]) .none 1020 .none .false [] .false,o2 (.store 4 (.t 7) (.t 25)) 1021]) (.seq (.reg 1022 4 [o1 26 (.mv (.t 1)) 1022,o1 27 (.load 4 .true (.t 7)) 1023,o1 28 (.callv (.t 26) [.t 27]) 1024,o1 29 (.un .not (.t 28)) 1025]) (.cond (.t 29) (.seq (.reg 1026 5 [o1 30 (.mv (.t 0)) 1026,o1 31 (.mv (.t 5)) 1027,
 o1 32 (.load 4 .true (.t 7)) 1028,o1 33 (.iaddr 4 (.t 30) (.t 31)) 1029,o2 (.store 4 (.t 33) (.t 32)) 1030]) (.reg 1031 3 [o1 34 (.mv (.t 5)) 1031,o1 35 (.bin .add (.t 34) (.k (.int .i64 1))) 1032,o1 5 (.mv (.t 35)) 1033])) .skip)))) (.reg 1034 3 [o1 20 (.mv (.t 6)) 1034,o1 21 (.bin .add (.t 20) (.k (.int .i64 1))) 1035,o1 6 (.mv (.t 21)) 1036])))))) (.seq (.reg
 1037 4 [o1 36 (.mv (.t 0)) 1037,o1 37 (.mv (.t 5)) 1038,o1 38 (.slc 4 (.t 36) (.some (.t 37)) .none .none) 1039, .mk .none (.clr [.string (ByteArray.mk (Array.mk [])), .int .i64 0, .int .i64 0, .int .i64 0] (.t 38)) .none 1040 .none .false
 [] .false]) (.seq (.reg 1041 4 [o1 39 (.mv (.t 0)) 1041,o1 40 (.mv (.t 5)) 1042,o1 41 (.slc 4 (.t 39) .none (.some (.t 40)) .none) 1043,o1 4 (.mv (.t 41)) 1044]) .ret)))))
def rs93:List IRes:=[.tmp 4]
set_option maxRecDepth 100000 in
theorem comp93:CompAt Tryz.prog 122 1000 ir93 rs93 42:=⟨⟨_,_,1045,Tryz.func122,rfl,by kernel_rfl,by kernel_rfl,rfl⟩⟩
theorem body93:HasBody Tryz.prog 122:=hasBody_of (by kernel_rfl)

def ir110:IC :=
 .seq (.reg 1000 1 [o1 6 (.mv (.k (.slice .none 0 0))) 1000]) (.seq (.reg 1001 3 [o1 10 (.mv (.t 0)) 1001,
 o1 11 (.mv (.t 1)) 1002,o1 12 (.slc 4 (.t 10) (.some (.t 11)) .none .none) 1003]) (.seq (.reg 1004 3
 [o1 13 (.mv (.t 2)) 1004,o1 14 (.len (.t 13)) 1005,o1 7 (.mv (.t 14)) 1006]) (.seq (.seq (.reg 1007 2 [o1 15 (.mv (.t 7)) 1007,o1 16 (.bin .eql (.t 15) (.k (.int .i64 0))) 1008]) (.cond (.t 16) (.seq (.reg 1009 2 [o1 17 (.mv (.t 0)) 1009,o1 6 (.mv (.t 17)) 1010]) .ret) .skip)) (.seq (.reg 1011 3 [o1 18 (.mv (.t 0)) 1011,o1 19 (.len (.t 18)) 1012,o1 8 (.mv (.t 19)) 1013]) (.seq (.seq (.reg 1014 3 [o1 20 (.mv (.t 1)) 1014,o1 21 (.mv (.t 8)) 1015,o1 22 (.bin .eql (.t 20) (.t 21)) 1016]) (.cond (.t 22) (.seq (.reg 1017 4 [o1 23 (.mv (.t 0)) 1017,o1 24 (.mv (.t 2)) 1018,o1 25 (.apph 164 4 40 (.t 23) (.t 24)) 1019,o1 6 (.mv (.t 25)) 1020]) .ret) .skip)) (.seq (.seq (.reg 1021 6 [o1 26 (.mv (.t 8)) 1021,o1 27 (.mv (.t 7)) 1022,o1 28 (.bin .add (.t 26) (.t 27)) 1023,o1 29 (.mv (.t 0)) 1024,o1 30 (.cap (.t 29)) 1025,o1 31 (.bin .gtr (.t 28) (.t 30)) 1026]) (.cond (.t
 31) (.seq (.reg 1027 10 [o1 32 (.mv (.t 0)) 1027,o1 33 (.mv (.t 1)) 1028,o1 34 (.slc 4 (.t 32) .none (.some (.t 33)) .none) 1029,o1 35 (.mv (.t 8)) 1030,o1 36 (.mv (.t 7)) 1031,o1 37 (.bin .add (.t 35) (.t 36)) 1032,o1 38 (.mv (.t 1)) 1033,o1 39 (.bin .sub (.t 37) (.t 38)) 1034, .mk (.some 40) (.appz 164 4 40 [.string (ByteArray.mk (Array.mk [])), .int .i64 0, .int .i64 0, .int .i64 0] (.t 34) (.t
 39)) .none 1035 .none .false [] .false,o1 9 (.mv (.t 40)) 1036]) (.seq (.reg 1037 5 [o1 41 (.mv (.t 9)) 1037,o1 42 (.mv (.t 1)) 1038,o1 43 (.slc 4 (.t 41) (.some (.t 42)) .none .none) 1039,o1 44 (.mv (.t 2)) 1040,o1 45 (.cpy 4 (.t 43) (.t 44)) 1041]) (.seq (.draw 1042 9 [0,9] [] [o3 46 (.mv (.t 9)) 1042,o3 47 (.mv (.t 1)) 1043,o3 48 (.mv (.t 7)) 1044,o3 49 (.bin .add (.t 47) (.t 48)) 1045,o3 50 (.slc 4 (.t 46) (.some (.t 49)) .none .none) 1046,o3 51 (.mv (.t 0)) 1047,o3 52 (.mv (.t 1)) 1048,o3 53 (.slc 4 (.t 51) (.some (.t 52)) .none .none) 1049,o3 54 (.cpy 4 (.t 50) (.t 53)) 1050]) (.seq (.reg 1051 2 [o1 55 (.mv (.t 9)) 1051,o1 6 (.mv (.t 55)) 1052]) .ret)))) .skip)) (.seq (.reg 1053 6 [o1 56 (.mv (.t 0)) 1053,o1 57 (.mv (.t 8)) 1054,o1 58 (.mv (.t 7)) 1055,o1 59 (.bin .add (.t 57) (.t 58)) 1056,o1 60 (.slc 4 (.t 56) .none (.some (.t 59)) .none) 1057,o1 0 (.mv (.t 60)) 1058]) (.seq (.seq (.reg 1059 8 [o1 61 (.mv (.t 2)) 1059,o1 62 (.mv (.t 0)) 1060,o1 63 (.mv (.t 1)) 1061,o1 64 (.mv (.t 7)) 1062,o1 65 (.bin .add (.t 63) (.t 64)) 1063,o1 66 (.slc 4 (.t 62) (.some (.t 65)) .none .none) 1064,o1 67 (.call 212 [.t 61, .t 66]) 1065,o1 68 (.un .not (.t 67)) 1066]) (.cond (.t 68) (.seq (.draw 1067 9 [0] [] [o3 69 (.mv (.t 0)) 1067,o3 70 (.mv (.t 1)) 1068,o3 71 (.mv (.t 7)) 1069,
 o3 72 (.bin .add (.t 70) (.t 71)) 1070,o3 73 (.slc 4 (.t 69) (.some (.t 72)) .none .none) 1071,o3 74 (.mv (.t 0)) 1072,o3 75 (.mv (.t 1)) 1073,o3 76 (.slc 4 (.t 74) (.some (.t 75)) .none .none) 1074,o3 77 (.cpy 4 (.t 73) (.t 76)) 1075]) (.seq (.reg 1076 5 [o1 78 (.mv (.t 0)) 1076,o1 79 (.mv (.t 1)) 1077,o1 80 (.slc 4 (.t 78) (.some (.t 79)) .none .none) 1078,o1 81 (.mv (.t 2)) 1079,o1 82 (.cpy 4 (.t 80) (.t 81)) 1080]) (.seq (.reg
 1081 2 [o1 83 (.mv (.t 0)) 1081,o1 6 (.mv (.t 83)) 1082]) .ret))) .skip)) (.seq (.reg 1083 5 [o1 84 (.mv (.t 0)) 1083,o1 85 (.mv (.t 8)) 1084,o1 86 (.slc 4 (.t 84) (.some (.t 85)) .none .none) 1085,o1 87 (.mv (.t 2)) 1086,o1 88 (.cpy 4 (.t 86) (.t 87)) 1087]) (.seq (.reg 1088 5 [o1 89 (.mv (.t 0)) 1088,o1 90 (.mv (.t 1)) 1089,o1 91 (.slc 4 (.t 89) (.some (.t 90)) .none .none) 1090,o1 92 (.mv (.t 7)) 1091,o1 93 (.call 213 [.t 91, .t 92]) 1092]) (.seq (.reg 1093 2 [o1 94 (.mv (.t 0)) 1093,o1 6 (.mv (.t 94)) 1094]) .ret)))))))))))
def rs110:List IRes:=[.tmp 6]
set_option maxRecDepth 100000 in
theorem comp110:CompAt Tryz.prog 179 1000 ir110 rs110 95:=⟨⟨_,_,1095,Tryz.func179,rfl,by kernel_rfl,by kernel_rfl,rfl⟩⟩
theorem body110:HasBody Tryz.prog 179:=hasBody_of (by kernel_rfl)

end Go.Proofs.YtefnikpoimaiiaaGreat

namespace Go.Proofs.YtefnikpoimaiiaaGreat
open Go.Pal
def ir70b:IC :=
 .seq (.reg 4 2 [o1 4 (.box 164 (.t 0)) 4,o1 5 (.mv (.k (.slice .none 0 0))) 5]) (.seq (.seq (.reg 6 4
 [o1 11 (.faddr 0 (.t 4)) 6,o1 12 (.faddr 1 (.t 11)) 7,o1 13 (.load 1 .false (.t 12)) 8,o1 14 (.bin .geq (.t 13) (.k (.int .i64 0))) 9]) (.cond (.t 14) (.seq (.reg 10 5 [o1 15 (.faddr 0 (.t 4)) 10,o1 16 (.faddr 1 (.t 15)) 11,o1 17 (.load 1 .false (.t 16)) 12,o1 18 (.bsl 3 1 1 [.int .i64 0] [(0, .t 17)]) 13,o1 5 (.mv (.t 18)) 14]) .ret) .skip)) (.seq (.seq (.reg
 15 10 [o1 20 (.load 1 .false (.t 1)) 15,o1 21 (.faddr 0 (.t 4)) 16,o1 22 (.faddr 2 (.t 21)) 17,o1 23 (.load 1 .false (.t 22)) 18,o1 24 (.lkp 3 (.slice .none 0 0) .true (.t 20) (.t 23)) 19,o1 19 (.mv (.t 24)) 20,o1 25 (.ext (.t 19) 0) 21,o1 26 (.ext (.t 19) 1) 22,o1 6 (.mv (.t 25)) 23,o1 7 (.mv (.t 26)) 24]) (.seq (.reg 25 1
 [o1 27 (.mv (.t 7)) 25]) (.cond (.t 27) (.seq (.reg 26 2 [o1 28 (.mv (.t 6)) 26,o1 5 (.mv (.t 28)) 27]) .ret) .skip))) (.seq (.reg 28 1 [o1 8 (.mv (.k (.slice .none 0 0))) 28]) (.seq (.seq (.reg 29 6 [o1 29 (.load 1 .false (.t 2)) 29,o1 30 (.nilc (.t 29)) 30,o1 31 (.faddr 2 (.t 30)) 31,o1 32 (.load 1 .false (.t 31)) 32,o1 33 (.len (.t 32)) 33,o1 34 (.mv (.k (.int .i64 0))) 34]) (.block 0 (.loop (.seq (.reg 35 1 [o1 35 (.bin .lss (.t 34) (.t 33)) 35]) (.seq (.cond
 (.t 35) .skip (.exit 0)) (.seq (.block 1 (.seq (.reg 36 4 [o1 36 (.iaddr 4 (.t 32) (.t 34)) 36,o1 37 (.load 4 .true (.t 36)) 37, .mk (.some 10) (.alloc 164 [.string (ByteArray.mk (Array.mk [])), .int .i64 0, .int .i64 0, .int .i64 0]) .none 38 .none .false [] .false,o2 (.store 4 (.t 10) (.t 37)) 39]) (.seq (.reg 40 6 [o1 38 (.faddr 3 (.t 10)) 40,o1 39 (.load 1 .false (.t 38)) 41,o1 40 (.faddr 0 (.t 4)) 42,o1 41 (.faddr 2 (.t 40)) 43,o1 42 (.load 1 .false (.t 41)) 44,o1 43 (.bin .eql (.t 39) (.t 42)) 45]) (.cond (.t 43) (.reg 46 6 [o1 44 (.mv (.t 8)) 46,o1 45 (.load 1 .false (.t 3)) 47,o1 46 (.load 4 .true (.t 10)) 48,o1 47 (.callv (.t 45) [.t 46]) 49,o1 48 (.app 3 1 8 (.t 44) (.t 47)) 50,o1 8 (.mv (.t 48)) 51]) .skip)))) (.reg 52 2 [o1 49 (.bin .add (.t 34) (.k (.int .i64 1))) 52,o1 34 (.mv (.t 49)) 53]))))))) (.seq (.drawd 54 7 [] [] [] [.some [1], .none, .none, .some [4], .none, .some [8], .none] [(0,o3 50 (.load 1 .false (.t 1)) 54),(1,o3 51 (.faddr 0 (.t 4)) 55),(2, .mk (.some 52) (.faddr 2 (.t 51)) .none 56
 (.some []) .true [1] .false),(3, .mk (.some 53) (.load 1 .false (.t 52)) .none 57 (.some []) .true [1,2] .false),(4,o3 54 (.mv (.t 8)) 58),(5, .mk (.some 55) (.cut 90 (.t 54) []) .none 59 (.some []) .true [4] .true),(6, .mk .none (.mup 3 (.t 50) (.t 53) (.t 55)) .none 60 (.some []) .true [4,5,2,1,3,0]
 .false)]) (.seq (.reg 61 6 [o1 56 (.load 1 .false (.t 1)) 61,o1 57 (.faddr 0 (.t 4)) 62,o1 58 (.faddr 2 (.t 57)) 63,o1 59 (.load 1 .false (.t 58)) 64,o1 60 (.lkp 3 (.slice .none 0 0) .false (.t 56) (.t 59)) 65,o1 5 (.mv (.t 60)) 66]) .ret))))))
def rs70b:List IRes:=[.tmp 5]
set_option maxRecDepth 100000 in
theorem comp70b:CompAt Tryz.prog 89 4 ir70b rs70b 61:=⟨⟨_,_,67,Tryz.func89,rfl,by kernel_rfl,by kernel_rfl,rfl⟩⟩

def ir16b:IC :=
 .seq (.reg 1000 4 [o1 2 (.box 84 (.t 0)) 1000,o1 4 (.alloc 79 [.slice .none 0 0]) 1001,o1 5 (.mv (.k (.slice .none 0 0))) 1002,o1 6 (.mv (.k (.int .i64 0))) 1003]) (.seq (.reg 1004 11 [o1 18 (.load 2 .true (.t 2)) 1004,o1 19 (.mv (.t 1)) 1005,o1 20 (.call 57 [.t 18, .t 19]) 1006,o1 17 (.mv (.t 20)) 1007,o1 21 (.ext (.t 17) 0) 1008,o1 22 (.ext (.t 17) 1) 1009,o1 23 (.ext (.t 17) 2) 1010,o1 7 (.alloc 152 [.pointer .none]) 1011,o2 (.store 1 (.t 7) (.t 21)) 1012,o1 8 (.mv (.t 22)) 1013,o1 6 (.mv (.t 23)) 1014]) (.seq (.seq (.reg 1015 2 [o1 24 (.mv (.t 6)) 1015,o1 25 (.bin .neq (.t 24) (.k (.int .i64 0))) 1016]) (.cond (.t 25) (.seq (.reg 1017 4 [o1 26 (.mv (.t 6)) 1017,o2 (.store 1 (.t 4) (.k (.slice .none 0 0))) 1018,o1 5 (.mv (.k (.slice .none 0 0))) 1019,o1 6 (.mv (.t 26)) 1020])
 .ret) .skip)) (.seq (.reg 1021 4 [o1 27 (.load 1 .false (.t 7)) 1021,o1 28 (.call 58 [.t 27]) 1022,
 o1 9 (.alloc 155 [.nilFunc]) 1023,o2 (.store 1 (.t 9) (.t 28)) 1024]) (.seq (.reg 1025 3 [o1 29 .mkm 1025,o1 10 (.alloc 157 [.map .none]) 1026,o2 (.store 1 (.t 10) (.t 29)) 1027]) (.seq (.seq (.reg 1028 2 [o1 30 (.load 1 .false (.t 7)) 1028,o1 31 (.call 59 [.t 30]) 1029])
 (.block 0 (.range (.t 31) [32,33] (.reg 1030 1 [o1 12 (.mv (.t 33)) 1030]) (.block 1 (.seq (.draw 1031 10 [] [] [o3 34 (.load 1 .false (.t 9)) 1031,o3 35 (.load 1 .false (.t 7)) 1032,o3 36 (.nilc (.t 35)) 1033,o3 37 (.faddr 2 (.t 36)) 1034,o3 38 (.load 1 .false (.t 37)) 1035,
 o3 39 (.mv (.t 12)) 1036,o3 40 (.iaddr 4 (.t 38) (.t 39)) 1037,o3 41 (.load 4 .true (.t 40)) 1038,o3 42 (.callv (.t 34) [.t 41]) 1039, .mk (.some 13) (.mv (.t 42)) .none 1040 (.some
 [1039]) .true [] .false]) (.seq (.draw 1041 7 [13,2] [] [o3 43 (.load 1 .false (.t 4)) 1041,o3 44 (.load 2 .true (.t 2)) 1042,o3 45 (.mv (.t 13)) 1043,o3 46 (.call 60 [.t 44, .t 45]) 1044, .mk (.some 47) (.bsl 89 4 1 [.slice .none 0 0, .int .i64 0, .int .i64 0, .slice .none 0 0] [(0, .t 46)]) .none 1045 (.some [1044]) .true [] .false, .mk (.some 48) (.apph
 89 4 64 (.t 43) (.t 47)) .none 1046 (.some [0,1044,1045]) .false [] .true, .mk .none (.store 1 (.t 4) (.t 48)) .none 1047 (.some [1045,1044]) .true [] .false]) (.seq (.reg 1048
 3 [o1 49 (.mv (.t 13)) 1048,o1 50 (.len (.t 49)) 1049,o1 51 (.mv (.k (.int .i64 0))) 1050]) (.block 2 (.loop (.seq (.reg 1051 1 [o1 52 (.bin .lss (.t 51) (.t 50)) 1051]) (.seq (.cond (.t 52) .skip (.exit
 2)) (.seq (.block 3 (.seq (.reg 1052 3 [o1 53 (.iaddr 1 (.t 49) (.t 51)) 1052,o1 54 (.load 1 .false (.t 53)) 1053,o1 15 (.mv (.t 54)) 1054]) (.reg 1055 3 [o1 55 (.load 1 .false (.t 10)) 1055,o1 56 (.mv (.t 15)) 1056,o2 (.mup 3 (.t 55) (.t 56) (.k (.bool .true))) 1057]))) (.reg 1058 2 [o1 57 (.bin .add (.t 51) (.k (.int .i64 1))) 1058,o1 51 (.mv (.t 57)) 1059]))))))))))))) (.seq (.seq (.reg 1060 4
 [o1 58 (.faddr 0 (.t 2)) 1060,o1 59 (.load 1 .false (.t 58)) 1061,o1 60 (.len (.t 59)) 1062,o1 61 (.mv (.k (.int .i64 0))) 1063]) (.block 4 (.loop (.seq (.reg 1064 1 [o1 62 (.bin .lss (.t 61) (.t 60)) 1064]) (.seq (.cond (.t 62) .skip (.exit 4)) (.seq (.block 5 (.seq (.reg 1065 2 [o1 63 (.mv (.t 61)) 1065,
 o1 16 (.mv (.t 63)) 1066]) (.seq (.reg 1067 4 [o1 64 (.load 1 .false (.t 10)) 1067,o1 65 (.mv (.t 16)) 1068,o1 66 (.lkp 3 (.bool .false) .false (.t 64) (.t 65)) 1069,o1 67 (.un .not (.t 66)) 1070]) (.cond (.t 67) (.reg 1071 5 [o1 68 (.mv (.t 5)) 1071,o1 69 (.mv (.t 16)) 1072,o1 70 (.bsl 3 1 1 [.int .i64 0] [(0, .t 69)]) 1073,o1 71 (.app 3 1 8 (.t 68) (.t 70)) 1074,o1 5 (.mv (.t 71)) 1075]) .skip)))) (.reg 1076 2 [o1 72 (.bin .add (.t 61) (.k (.int .i64 1))) 1076,o1 61 (.mv (.t 72)) 1077]))))))) (.seq (.reg 1078 5 [o1 73 (.load 1 .false (.t 4)) 1078,o1 74 (.mv (.t 5)) 1079,o2 (.store 1 (.t 4) (.t 73)) 1080,o1 5 (.mv (.t 74)) 1081,o1 6 (.mv (.k (.int .i64 0))) 1082]) .ret)))))))
def rs16b:List IRes:=[.cell 4 1 .false, .tmp 5, .tmp 6]
set_option maxRecDepth 100000 in
theorem comp16b:CompAt Tryz.prog 25 1000 ir16b rs16b 75:=⟨⟨_,_,1083,Tryz.func25,rfl,by kernel_rfl,by kernel_rfl,rfl⟩⟩

end Go.Proofs.YtefnikpoimaiiaaGreat

namespace Go.Proofs.YtefnikpoimaiiaaGreat
open Go.Pal
end Go.Proofs.YtefnikpoimaiiaaGreat

namespace Go.Proofs.YtefnikpoimaiiaaGreat
open Go.Pal
end Go.Proofs.YtefnikpoimaiiaaGreat

namespace Go.Proofs.YtefnikpoimaiiaaGreat
open Go.Pal
def ir24b:IC :=
 .seq (.reg 1 1 [o1 4 (.mv (.k (.bool .false))) 1]) (.seq (.seq (.reg 2 1 [o1 5 (.mv (.k (.int .i64 0))) 2]) (.block 0 (.loop (.seq (.seq (.reg 3 4 [o1 6 (.mv (.t 5)) 3,o1 7 (.mv (.t 0)) 4,o1 8 (.len (.t 7)) 5,o1 9 (.bin .lss (.t 6) (.t 8)) 6]) (.cond (.t 9) .skip (.exit 0))) (.seq (.block 1 (.seq
 (.reg 7 6 [o1 12 (.mv (.t 0)) 7,o1 13 (.mv (.t 5)) 8,o1 14 (.iaddr 1 (.t 12) (.t 13)) 9,o1 15 (.load 1 .false (.t 14)) 10,o1 16 (.mv (.t 1)) 11,o1 17 (.bin .eql (.t 15) (.t 16)) 12]) (.cond (.t 17) (.seq (.reg 13 1 [o1 4 (.mv (.k (.bool .true))) 13]) .ret)
 .skip))) (.reg 14 3 [o1 10 (.mv (.t 5)) 14,o1 11 (.bin .add (.t 10) (.k (.int .i64 1))) 15,o1 5 (.mv (.t 11)) 16])))))) (.seq (.reg 17 1 [o1 4 (.mv (.k (.bool .false))) 17]) .ret))
def rs24b:List IRes:=[.tmp 4]
set_option maxRecDepth 100000 in
theorem comp24b:CompAt Tryz.prog 62 1 ir24b rs24b 18:=⟨⟨_,_,18,Tryz.func62,rfl,by kernel_rfl,by kernel_rfl,rfl⟩⟩

end Go.Proofs.YtefnikpoimaiiaaGreat

namespace Go.Proofs.YtefnikpoimaiiaaGreat
open Go.Pal
def rs10:List IRes:=[.tmp 4]
def rs13:List IRes:=[.tmp 4]
def ir14:IC :=
 .seq (.reg 0 2 [o1 2 (.box 58 (.t 0)) 0,o1 4 (.mv (.k (.bool .false))) 1]) (.seq (.seq (.reg 2 1 [o1 5 (.mv (.k (.int .i64 0))) 2]) (.block 0 (.loop (.seq (.seq (.reg 3 5 [o1 7 (.mv (.t 5)) 3,o1 8 (.faddr 0 (.t 2)) 4,o1 9 (.load 1 .false (.t 8)) 5,o1 10 (.len (.t 9)) 6,o1 11 (.bin .lss (.t 7) (.t 10)) 7]) (.cond (.t 11) .skip (.exit 0))) (.seq (.block 1 (.seq (.reg 8 8 [o1 14 (.faddr 0 (.t 2)) 8,o1 15 (.load 1 .false (.t 14)) 9,o1 16 (.mv (.t 5)) 10,o1 17 (.iaddr 3 (.t 15) (.t 16)) 11,o1 18 (.faddr 0 (.t 17)) 12,o1 19 (.load 1 .false (.t 18)) 13,o1 20 (.lenS (.t 19)) 14,o1 21 (.bin .gtr (.t 20) (.k (.int .i64 40))) 15])
 (.cond (.t 21) (.seq (.reg 16 1 [o1 4 (.mv (.k (.bool .false))) 16]) .ret) .skip))) (.reg 17 3 [o1 12 (.mv (.t 5)) 17,o1 13 (.bin .add (.t 12) (.k (.int .i64 1))) 18,o1 5 (.mv (.t 13)) 19])))))) (.seq
 (.seq (.reg 20 1 [o1 6 (.mv (.k (.int .i64 0))) 20]) (.block 2 (.loop (.seq (.seq (.reg 21 4 [o1 22 (.mv (.t 6)) 21,o1 23 (.mv (.t 1)) 22,o1 24 (.len (.t 23)) 23,o1 25 (.bin .lss (.t 22) (.t 24)) 24]) (.cond (.t 25) .skip (.exit 2))) (.seq (.block 3 (.seq (.reg 25 7 [o1 28 (.mv (.t 1)) 25,o1 29 (.mv (.t 6)) 26,o1 30 (.iaddr 4 (.t 28) (.t 29)) 27,o1 31 (.faddr 3 (.t 30)) 28,o1 32 (.load 1 .false (.t 31)) 29,o1 33 (.call 47 [.t 32]) 30,o1 34 (.un .not (.t 33)) 31]) (.cond (.t 34) (.seq (.reg 32 1 [o1 4 (.mv (.k (.bool .false))) 32]) .ret) .skip))) (.reg 33
 3 [o1 26 (.mv (.t 6)) 33,o1 27 (.bin .add (.t 26) (.k (.int .i64 1))) 34,o1 6 (.mv (.t 27)) 35])))))) (.seq (.reg 36 16 [o1 35 (.faddr 0 (.t 2)) 36,o1 36 (.load 1 .false (.t 35)) 37,o1 37 (.len (.t 36)) 38,o1 38 (.bin .leq (.t 37) (.k (.int .i64 65))) 39,o1 39 (.mv (.t 38)) 40, .mk (.some 40) (.faddr 1 (.t 2)) (.some (39, .true)) 41 .none .false [] .false, .mk (.some 41) (.load 1 .false (.t 40)) (.some
 (39, .true)) 42 .none .false [] .false, .mk (.some 42) (.len (.t 41)) (.some (39, .true)) 43 .none .false [] .false, .mk (.some 43) (.bin .leq (.t 42) (.k (.int .i64 70))) (.some
 (39, .true)) 44 .none .false [] .false,o1 44 (.pick (.t 39) (.t 43) (.k (.bool .false))) 45,o1 45 (.mv (.t 44)) 46, .mk (.some 46) (.mv (.t 1)) (.some (45, .true)) 47 .none .false [] .false, .mk (.some 47) (.len (.t 46)) (.some (45, .true)) 48 .none .false [] .false, .mk
 (.some 48) (.bin .leq (.t 47) (.k (.int .i64 85))) (.some (45, .true)) 49 .none .false [] .false,o1 49 (.pick (.t 45) (.t 48) (.k (.bool .false))) 50,o1 4 (.mv (.t 49)) 51]) .ret)))
def rs14:List IRes:=[.tmp 4]
set_option maxRecDepth 100000 in
theorem comp14:Comp Tryz.prog 18 ir14 rs14 50:=⟨⟨_,_,52,Tryz.func18,rfl,by kernel_rfl,by kernel_rfl,rfl⟩⟩
theorem body14:HasBody Tryz.prog 18:=hasBody_of (by kernel_rfl)
def rs15:List IRes:=[.tmp 0]
def ir17:IC :=
 .seq (.reg 0 2 [o1 1 (.box 58 (.t 0)) 0,o1 2 (.alloc 84 [.slice .none 0 0, .slice .none 0 0]) 1]) (.seq
 (.reg 2 6 [o1 6 (.faddr 1 (.t 1)) 2,o1 7 (.load 1 .false (.t 6)) 3,o1 8 (.app 3 1 8 (.k (.slice .none 0 0)) (.t 7)) 4,o1 9 (.bld [(0,1),(1,1)] [.slice .none 0 0, .slice .none 0 0] [(1, .t 8)]) 5,
 o1 3 (.alloc 84 [.slice .none 0 0, .slice .none 0 0]) 6,o2 (.store 2 (.t 3) (.t 9)) 7]) (.seq (.seq
 (.reg 8 1 [o1 4 (.mv (.k (.int .i64 0))) 8]) (.block 0 (.loop (.seq (.seq (.reg 9 5 [o1 10 (.mv (.t 4)) 9,o1 11 (.faddr 0 (.t 1)) 10,o1 12 (.load 1 .false (.t 11)) 11,o1 13 (.len (.t 12)) 12,o1 14 (.bin .lss (.t 10) (.t 13)) 13]) (.cond (.t 14) .skip (.exit 0))) (.seq (.block 1 (.seq (.reg 14 7
 [o1 17 (.faddr 0 (.t 1)) 14,o1 18 (.load 1 .false (.t 17)) 15,o1 19 (.mv (.t 4)) 16,o1 20 (.iaddr 3 (.t 18) (.t 19)) 17,o1 21 (.load 3 .true (.t 20)) 18, .mk
 (.some 5) (.alloc 76 [.string (ByteArray.mk (Array.mk [])), .int .i64 0, .int .i64 0]) .none 19 .none .false [] .false,o2 (.store 3 (.t 5) (.t 21)) 20]) (.reg 21 13 [o1 22 (.faddr 0 (.t 3)) 21,o1 23 (.load 1 .false (.t 22)) 22,o1 24 (.faddr 0 (.t 5)) 23,o1 25 (.load 1 .false (.t 24)) 24,o1 26 (.faddr 1 (.t 5)) 25,o1 27 (.load 1 .false (.t 26)) 26,o1 28 (.faddr 2 (.t 5)) 27,o1 29 (.load 1 .false (.t 28)) 28, .mk (.some 30) (.bld [(0,1),(1,1),(2,1)] [.string (ByteArray.mk (Array.mk [])), .int .i64 0, .int .i64 0] [(0, .t 25),(1, .t
 27),(2, .t 29)]) .none 29 .none .false [] .false, .mk (.some 31) (.bsl 132 3 1 [.string (ByteArray.mk (Array.mk [])), .int .i64 0, .int .i64 0] [(0, .t 30)]) .none 30 .none
 .false [] .false,o1 32 (.app 132 3 32 (.t 23) (.t 31)) 31,o1 33 (.faddr 0 (.t 3)) 32,o2 (.store 1 (.t 33) (.t 32)) 33]))) (.reg 34 3 [o1 15 (.mv (.t 4)) 34,o1 16 (.bin .add (.t 15) (.k (.int .i64 1))) 35,o1 4 (.mv (.t 16)) 36])))))) (.seq (.reg 37 2 [o1 34 (.load 2 .true (.t 3)) 37,o2 (.store 2 (.t 2) (.t 34)) 38]) .ret)))
def rs17:List IRes:=[.cell 2 2 .true]
set_option maxRecDepth 100000 in
theorem comp17:Comp Tryz.prog 26 ir17 rs17 35:=⟨⟨_,_,39,Tryz.func26,rfl,by kernel_rfl,by kernel_rfl,rfl⟩⟩
theorem body17:HasBody Tryz.prog 26:=hasBody_of (by kernel_rfl)
def ir18:IC :=
 .seq (.reg 0 1 [o1 2 (.mv (.k (.slice .none 0 0))) 0]) (.seq (.reg 1 1 [o1 3 (.mv (.k (.slice .none 0 0))) 1]) (.seq (.seq (.reg 2 1 [o1 4 (.mv (.k (.int .i64 0))) 2]) (.block 0 (.loop (.seq (.seq (.reg 3 4 [o1 5 (.mv (.t 4)) 3,o1 6 (.mv (.t 0)) 4,o1 7 (.len (.t 6)) 5,o1 8 (.bin .lss (.t 5) (.t 7)) 6]) (.cond (.t 8) .skip (.exit 0))) (.seq (.block 1 (.draw 7 26 [] [] [o3 11 (.mv (.t 3)) 7,o3 12 (.mv (.t 0)) 8,o3 13 (.mv (.t 4)) 9,o3 14 (.iaddr 4 (.t 12) (.t 13)) 10,o3 15 (.faddr 0 (.t 14)) 11,o3 16 (.load 1 .false (.t 15)) 12,o3 17 (.mv (.t 0)) 13,o3 18 (.mv (.t 4)) 14,o3 19 (.iaddr 4 (.t 17) (.t 18)) 15,o3 20 (.faddr 1 (.t 19)) 16,o3 21 (.load 1 .false (.t 20)) 17,o3 22 (.mv (.t 0)) 18,o3 23 (.mv (.t 4)) 19,o3 24 (.iaddr 4 (.t 22) (.t 23)) 20,o3 25 (.faddr 2 (.t 24)) 21,o3 26 (.load 1 .false (.t 25)) 22,o3 27 (.mv (.t 0)) 23,o3 28 (.mv (.t 4)) 24,o3 29 (.iaddr 4 (.t 27) (.t 28)) 25,o3 30 (.faddr 3 (.t 29)) 26,o3 31 (.load 1 .false (.t 30)) 27,o3 32 (.call 61 [.t 31]) 28, .mk (.some 33) (.bld [(0,1),(1,1),(2,1),(3,1)] [.int .i64 0, .int .i64 0, .int .i64 0, .slice .none 0 0] [(0, .t
 16),(1, .t 21),(2, .t 26),(3, .t 32)]) .none 29 (.some [28]) .true [] .false, .mk (.some 34) (.bsl 133 4 1 [.int .i64 0, .int .i64 0, .int .i64 0, .slice .none 0 0] [(0, .t
 33)]) .none 30 (.some [28]) .true [] .false, .mk (.some 35) (.app 133 4 48 (.t 11) (.t 34)) .none 31 (.some [28,30]) .false [] .false, .mk (.some 3) (.mv (.t 35)) .none 32 (.some
 [30,28,31]) .true [] .false])) (.reg 33 3 [o1 9 (.mv (.t 4)) 33,o1 10 (.bin .add (.t 9) (.k (.int .i64 1))) 34,o1 4 (.mv (.t 10)) 35])))))) (.seq (.reg 36 2 [o1 36 (.mv (.t 3)) 36,o1 2 (.mv (.t 36)) 37]) .ret)))
def rs18:List IRes:=[.tmp 2]
set_option maxRecDepth 100000 in
theorem comp18:Comp Tryz.prog 27 ir18 rs18 37:=⟨⟨_,_,38,Tryz.func27,rfl,by kernel_rfl,by kernel_rfl,rfl⟩⟩
theorem body18:HasBody Tryz.prog 27:=hasBody_of (by kernel_rfl)
def ir23:IC :=
 .seq (.reg 0 1 [o1 4 (.mv (.k (.bool .false))) 0]) (.seq (.seq (.reg 1 5 [o1 6 (.mv (.t 0)) 1,o1 7 (.len (.t 6)) 2,o1 8 (.mv (.t 1)) 3,o1 9 (.len (.t 8)) 4,o1 10 (.bin .neq (.t 7) (.t 9)) 5]) (.cond (.t 10) (.seq (.reg 6 1 [o1 4 (.mv (.k (.bool .false))) 6]) .ret)
 .skip)) (.seq (.seq (.reg 7 1 [o1 5 (.mv (.k (.int .i64 0))) 7]) (.block 0 (.loop (.seq (.seq (.reg 8 4 [o1 11 (.mv (.t 5)) 8,o1 12 (.mv (.t 0)) 9,o1 13 (.len (.t 12)) 10,o1 14 (.bin .lss (.t 11) (.t 13)) 11]) (.cond (.t 14) .skip (.exit 0))) (.seq (.block 1 (.seq (.draw 12 9 [] [] [o3 17 (.mv (.t 0)) 12,o3 18 (.mv (.t 5)) 13,o3 19 (.iaddr 1 (.t 17) (.t 18)) 14,o3 20 (.load 1 .false (.t 19)) 15,o3 21 (.mv (.t 1)) 16,o3 22 (.mv (.t 5)) 17,o3 23 (.iaddr 1 (.t 21) (.t 22)) 18,o3 24 (.load 1 .false (.t 23)) 19,o3 25 (.bin .neq (.t 20) (.t 24)) 20]) (.cond (.t 25) (.seq (.reg 21 1 [o1 4 (.mv (.k (.bool .false))) 21]) .ret)
 .skip))) (.reg 22 3 [o1 15 (.mv (.t 5)) 22,o1 16 (.bin .add (.t 15) (.k (.int .i64 1))) 23,o1 5 (.mv (.t 16)) 24])))))) (.seq (.reg 25 1 [o1 4 (.mv (.k (.bool .true))) 25]) .ret)))
def rs23:List IRes:=[.tmp 4]
def ir24:IC :=
 .seq (.reg 0 1 [o1 4 (.mv (.k (.bool .false))) 0]) (.seq (.seq (.reg 1 1 [o1 5 (.mv (.k (.int .i64 0))) 1]) (.block 0 (.loop (.seq (.seq (.reg 2 4 [o1 6 (.mv (.t 5)) 2,o1 7 (.mv (.t 0)) 3,o1 8 (.len (.t 7)) 4,o1 9 (.bin .lss (.t 6) (.t 8)) 5]) (.cond (.t 9) .skip (.exit 0))) (.seq (.block 1 (.seq
 (.reg 6 6 [o1 12 (.mv (.t 0)) 6,o1 13 (.mv (.t 5)) 7,o1 14 (.iaddr 1 (.t 12) (.t 13)) 8,o1 15 (.load 1 .false (.t 14)) 9,o1 16 (.mv (.t 1)) 10,o1 17 (.bin .eql (.t 15) (.t 16)) 11]) (.cond (.t 17) (.seq (.reg 12 1 [o1 4 (.mv (.k (.bool .true))) 12]) .ret) .skip)))
 (.reg 13 3 [o1 10 (.mv (.t 5)) 13,o1 11 (.bin .add (.t 10) (.k (.int .i64 1))) 14,o1 5 (.mv (.t 11)) 15])))))) (.seq (.reg 16 1 [o1 4 (.mv (.k (.bool .false))) 16]) .ret))
def rs24:List IRes:=[.tmp 4]
set_option maxRecDepth 100000 in
theorem comp24:Comp Tryz.prog 62 ir24 rs24 18:=⟨⟨_,_,17,Tryz.func62,rfl,by kernel_rfl,by kernel_rfl,rfl⟩⟩
theorem body24:HasBody Tryz.prog 62:=hasBody_of (by kernel_rfl)
def ir27:IC :=
 .seq (.reg 0 1 [o1 6 (.mv (.k (.bool .false))) 0]) (.seq (.reg 1 9 [o1 7 (.mv (.t 0)) 1,o1 8 (.mv (.t 1)) 2,o1 9 (.bin .geq (.t 7) (.t 8)) 3,o1 10 (.mv (.t 9)) 4,
 .mk (.some 11) (.mv (.t 0)) (.some (10, .true)) 5 .none .false [] .false, .mk (.some 12) (.mv (.t 2)) (.some (10, .true)) 6 .none .false [] .false, .mk (.some 13) (.bin .leq (.t
 11) (.t 12)) (.some (10, .true)) 7 .none .false [] .false,o1 14 (.pick (.t 10) (.t 13) (.k (.bool .false))) 8,o1 6 (.mv (.t 14)) 9]) .ret)
def rs27:List IRes:=[.tmp 6]
set_option maxRecDepth 100000 in
theorem comp27:Comp Tryz.prog 49 ir27 rs27 15:=⟨⟨_,_,10,Tryz.func49,rfl,by kernel_rfl,by kernel_rfl,rfl⟩⟩
theorem body27:HasBody Tryz.prog 49:=hasBody_of (by kernel_rfl)
def ir28:IC :=
 .seq (.reg 0 1 [o1 2 (.mv (.k (.bool .false))) 0]) (.seq (.seq (.reg 1 1 [o1 3 (.mv (.k (.int .i64 0))) 1]) (.block 0 (.loop (.seq (.seq (.reg 2 4 [o1 4 (.mv (.t 3)) 2,o1 5 (.mv (.t 0)) 3,o1 6 (.len (.t 5)) 4,o1 7 (.bin .lss (.t 4) (.t 6)) 5]) (.cond (.t 7) .skip (.exit 0))) (.seq (.block 1 (.seq
 (.reg 6 6 [o1 10 (.mv (.t 0)) 6,o1 11 (.mv (.t 3)) 7,o1 12 (.iaddr 1 (.t 10) (.t 11)) 8,o1 13 (.load 1 .false (.t 12)) 9,o1 14 (.lenS (.t 13)) 10,o1 15 (.bin .gtr (.t 14) (.k (.int .i64 40))) 11]) (.cond (.t 15) (.seq (.reg 12 1 [o1 2 (.mv (.k (.bool .false))) 12]) .ret) .skip))) (.reg 13 3 [o1 8 (.mv (.t 3)) 13,o1 9 (.bin .add (.t 8) (.k (.int .i64 1))) 14,o1 3 (.mv (.t 9)) 15])))))) (.seq (.reg 16 4 [o1 16 (.mv (.t 0)) 16,o1 17 (.len (.t 16)) 17,o1 18 (.bin .leq (.t 17) (.k (.int .i64 6))) 18,o1 2 (.mv (.t 18)) 19]) .ret))
def rs28:List IRes:=[.tmp 2]
set_option maxRecDepth 100000 in
theorem comp28:Comp Tryz.prog 47 ir28 rs28 19:=⟨⟨_,_,20,Tryz.func47,rfl,by kernel_rfl,by kernel_rfl,rfl⟩⟩
theorem body28:HasBody Tryz.prog 47:=hasBody_of (by kernel_rfl)
def ir32:IC :=
 .seq (.reg 0 2 [o1 1 (.box 58 (.t 0)) 0,o1 2 (.mv (.k (.bool .false))) 1]) (.seq (.seq (.reg 2 4 [o1 6 (.faddr 0 (.t 1)) 2,o1 7 (.load 1 .false (.t 6)) 3,o1 8 (.len (.t 7)) 4,o1 9 (.bin .gtr (.t 8) (.k (.int .i64 60))) 5]) (.cond (.t 9) (.seq (.reg 6 1 [o1 2 (.mv (.k (.bool .false))) 6]) .ret) .skip)) (.seq (.seq (.reg 7 1 [o1 3 (.mv (.k (.int .i64 0))) 7]) (.block 0 (.loop (.seq (.seq (.reg 8 5 [o1 10 (.mv (.t 3)) 8,o1 11 (.faddr 0 (.t 1)) 9,o1 12 (.load 1 .false (.t 11)) 10,o1 13 (.len (.t 12)) 11,o1 14 (.bin .lss (.t 10) (.t 13)) 12]) (.cond (.t 14) .skip
 (.exit 0))) (.seq (.block 1 (.seq (.reg 13 7 [o1 17 (.faddr 0 (.t 1)) 13,o1 18 (.load 1 .false (.t 17)) 14,o1 19 (.mv (.t 3)) 15,o1 20 (.iaddr 3 (.t 18) (.t 19)) 16,o1 21 (.load 3 .true (.t 20)) 17, .mk (.some 4) (.alloc 76 [.string (ByteArray.mk (Array.mk [])), .int .i64 0, .int .i64 0]) .none 18 .none .false [] .false,o2 (.store 3 (.t 4) (.t 21)) 19]) (.seq (.draw 20 32 [4] [] [o3 22 (.faddr 0 (.t 4)) 20,o3 23 (.load 1 .false (.t 22)) 21,o3 24 (.call 48 [.t 23]) 22, .mk (.some 25) (.un .not (.t 24)) .none 23 (.some [22]) .true
 [] .false, .mk (.some 26) (.mv (.t 25)) .none 24 (.some [22]) .true [] .false, .mk (.some 27) (.faddr 1 (.t 4)) (.some (26, .false)) 25 (.some [22]) .true [] .false, .mk (.some
 28) (.load 1 .false (.t 27)) (.some (26, .false)) 26 (.some [22]) .false [] .false, .mk (.some 29) (.call 49 [.t 28, .k (.int .i64 0), .k (.int .i64 36000)]) (.some (26, .false))
 27 (.some [22]) .false [] .false, .mk (.some 30) (.un .not (.t 29)) (.some (26, .false)) 28 (.some [22,27]) .true [] .false, .mk (.some 31) (.pick (.t 26) (.k (.bool .true)) (.t
 30)) .none 29 (.some [27,22]) .true [] .false, .mk (.some 32) (.mv (.t 31)) .none 30 (.some [22,27]) .true [] .false, .mk (.some 33) (.faddr 2 (.t 4)) (.some (32, .false)) 31
 (.some [27,22]) .true [] .false, .mk (.some 34) (.load 1 .false (.t 33)) (.some (32, .false)) 32 (.some [22,27]) .false [] .false, .mk (.some 35) (.call 49 [.t 34, .k (.int .i64
 0), .k (.int .i64 99)]) (.some (32, .false)) 33 (.some [27,22]) .false [] .false, .mk (.some 36) (.un .not (.t 35)) (.some (32, .false)) 34 (.some [22,27,33]) .true [] .false,
 .mk (.some 37) (.pick (.t 32) (.k (.bool .true)) (.t 36)) .none 35 (.some [33,27,22]) .true [] .false, .mk (.some 38) (.mv (.t 37)) .none 36 (.some [22,27,33]) .true []
 .false, .mk (.some 39) (.mv (.t 3)) (.some (38, .false)) 37 (.some [33,27,22]) .true [] .false, .mk (.some 40) (.bin .gtr (.t 39) (.k (.int .i64 0))) (.some (38, .false)) 38
 (.some [22,27,33]) .true [] .false, .mk (.some 41) (.mv (.t 40)) (.some (38, .false)) 39 (.some [33,27,22]) .true [] .false, .mk (.some 42) (.faddr 1 (.t 4)) (.some (41,
 .true)) 40 (.some [22,27,33]) .true [] .false, .mk (.some 43) (.load 1 .false (.t 42)) (.some (41, .true)) 41 (.some [33,27,22]) .false [] .false, .mk (.some 44) (.faddr 0 (.t
 1)) (.some (41, .true)) 42 (.some [22,27,33]) .true [] .false, .mk (.some 45) (.load 1 .false (.t 44)) (.some (41, .true)) 43 (.some [33,27,22]) .false [] .false, .mk (.some
 46) (.mv (.t 3)) (.some (41, .true)) 44 (.some [22,27,33]) .true [] .false, .mk (.some 47) (.bin .sub (.t 46) (.k (.int .i64 1))) (.some (41, .true)) 45 (.some [33,27,22])
 .true [] .false, .mk (.some 48) (.iaddr 3 (.t 45) (.t 47)) (.some (41, .true)) 46 (.some [22,27,33]) .true [] .false, .mk (.some 49) (.faddr 1 (.t 48)) (.some (41, .true)) 47
 (.some [33,27,22]) .true [] .false, .mk (.some 50) (.load 1 .false (.t 49)) (.some (41, .true)) 48 (.some [22,27,33]) .false [] .false, .mk (.some 51) (.bin .lss (.t 43) (.t
 50)) (.some (41, .true)) 49 (.some [22,27,33]) .true [] .false, .mk (.some 52) (.pick (.t 41) (.t 51) (.k (.bool .false))) (.some (38, .false)) 50 (.some [22,27,33]) .true []
 .false, .mk (.some 53) (.pick (.t 38) (.k (.bool .true)) (.t 52)) .none 51 (.some [33,27,22]) .true [] .false]) (.cond (.t 53) (.seq (.reg 52 1 [o1 2 (.mv (.k (.bool .false))) 52]) .ret) .skip)))) (.reg 53 3 [o1 15 (.mv (.t 3)) 53,o1 16 (.bin .add (.t 15) (.k (.int .i64 1))) 54,o1 3 (.mv (.t 16)) 55])))))) (.seq (.seq (.reg 56 1 [o1 5 (.mv (.k (.int .i64 0))) 56]) (.block 2 (.loop (.seq (.seq (.reg 57 5 [o1 54 (.mv (.t 5)) 57,o1 55 (.faddr 1 (.t 1)) 58,o1 56 (.load 1 .false (.t 55)) 59,o1 57 (.len (.t 56)) 60,o1 58 (.bin .lss (.t 54) (.t 57)) 61]) (.cond (.t 58) .skip (.exit 2))) (.seq (.block 3 (.seq (.draw 62 29 [] [] [o3 61 (.faddr 1 (.t 1)) 62,o3 62 (.load 1 .false (.t 61)) 63,o3 63 (.mv (.t 5)) 64,o3 64 (.iaddr 1 (.t 62) (.t 63)) 65,o3 65 (.load 1 .false (.t 64)) 66,o3 66 (.faddr 0 (.t 1)) 67,o3 67 (.load 1 .false (.t 66)) 68,o3 68 (.len (.t 67)) 69,o3 69 (.bin .sub (.t 68) (.k (.int .i64 1))) 70,o3 70 (.call 49 [.t 65, .k (.int .i64 0), .t 69]) 71, .mk (.some 71) (.un .not (.t 70)) .none 72 (.some [71]) .true [] .false, .mk (.some 72) (.mv (.t 71)) .none 73 (.some [71]) .true [] .false, .mk (.some 73) (.mv (.t 5))
 (.some (72, .false)) 74 (.some [71]) .true [] .false, .mk (.some 74) (.bin .gtr (.t 73) (.k (.int .i64 0))) (.some (72, .false)) 75 (.some [71]) .true [] .false, .mk (.some 75)
 (.mv (.t 74)) (.some (72, .false)) 76 (.some [71]) .true [] .false, .mk (.some 76) (.faddr 1 (.t 1)) (.some (75, .true)) 77 (.some [71]) .true [] .false, .mk (.some 77) (.load 1
 .false (.t 76)) (.some (75, .true)) 78 (.some [71]) .false [] .false, .mk (.some 78) (.mv (.t 5)) (.some (75, .true)) 79 (.some [71]) .true [] .false, .mk (.some 79) (.iaddr 1 (.t
 77) (.t 78)) (.some (75, .true)) 80 (.some [71]) .true [] .false, .mk (.some 80) (.load 1 .false (.t 79)) (.some (75, .true)) 81 (.some [71]) .false [] .false, .mk (.some 81)
 (.faddr 1 (.t 1)) (.some (75, .true)) 82 (.some [71]) .true [] .false, .mk (.some 82) (.load 1 .false (.t 81)) (.some (75, .true)) 83 (.some [71]) .false [] .false, .mk (.some 83)
 (.mv (.t 5)) (.some (75, .true)) 84 (.some [71]) .true [] .false, .mk (.some 84) (.bin .sub (.t 83) (.k (.int .i64 1))) (.some (75, .true)) 85 (.some [71]) .true [] .false, .mk
 (.some 85) (.iaddr 1 (.t 82) (.t 84)) (.some (75, .true)) 86 (.some [71]) .true [] .false, .mk (.some 86) (.load 1 .false (.t 85)) (.some (75, .true)) 87 (.some [71]) .false []
 .false, .mk (.some 87) (.bin .leq (.t 80) (.t 86)) (.some (75, .true)) 88 (.some [71]) .true [] .false, .mk (.some 88) (.pick (.t 75) (.t 87) (.k (.bool .false))) (.some (72,
 .false)) 89 (.some [71]) .true [] .false, .mk (.some 89) (.pick (.t 72) (.k (.bool .true)) (.t 88)) .none 90 (.some [71]) .true [] .false]) (.cond (.t 89) (.seq (.reg 91 1 [o1 2 (.mv (.k (.bool .false))) 91]) .ret) .skip))) (.reg 92 3 [o1 59 (.mv (.t 5)) 92,o1 60 (.bin .add (.t 59) (.k (.int .i64 1))) 93,o1 5 (.mv (.t 60)) 94])))))) (.seq (.reg 95 1 [o1 2 (.mv (.k (.bool .true))) 95]) .ret))))
def rs32:List IRes:=[.tmp 2]
set_option maxRecDepth 100000 in
theorem comp32:Comp Tryz.prog 19 ir32 rs32 90:=⟨⟨_,_,96,Tryz.func19,rfl,by kernel_rfl,by kernel_rfl,rfl⟩⟩
theorem body32:HasBody Tryz.prog 19:=hasBody_of (by kernel_rfl)
def rs33:List IRes:=[.tmp 4]
def ir35:IC :=
 .seq (.reg 0 1 [o1 6 (.mv (.k (.bool .false))) 0]) (.seq (.seq (.reg 1 1 [o1 7 (.mv (.k (.int .i64 0))) 1]) (.block 0 (.loop (.seq (.seq (.reg 2 4 [o1 8 (.mv (.t 7)) 2,o1 9 (.mv (.t 0)) 3,o1 10 (.len (.t 9)) 4,o1 11 (.bin .lss (.t 8) (.t 10)) 5]) (.cond (.t 11) .skip (.exit 0))) (.seq (.block 1 (.seq
 (.reg 6 15 [o1 14 (.mv (.t 0)) 6,o1 15 (.mv (.t 7)) 7,o1 16 (.iaddr 4 (.t 14) (.t 15)) 8,o1 17 (.faddr 2 (.t 16)) 9,o1 18 (.load 1 .false (.t 17)) 10,o1 19 (.mv (.t 2)) 11,o1 20 (.bin .eql (.t 18) (.t 19)) 12,o1 21 (.mv (.t 20)) 13, .mk (.some 22) (.mv (.t 0)) (.some (21, .true)) 14 .none .false [] .false, .mk (.some 23) (.mv (.t 7)) (.some (21, .true)) 15 .none .false [] .false, .mk (.some 24)
 (.iaddr 4 (.t 22) (.t 23)) (.some (21, .true)) 16 .none .false [] .false, .mk (.some 25) (.faddr 3 (.t 24)) (.some (21, .true)) 17 .none .false [] .false, .mk (.some 26) (.load 1
 .false (.t 25)) (.some (21, .true)) 18 .none .false [] .false, .mk (.some 27) (.bin .neq (.t 26) (.k (.int .i64 0))) (.some (21, .true)) 19 .none .false [] .false,o1 28 (.pick (.t 21) (.t 27) (.k (.bool .false))) 20]) (.cond (.t 28) (.seq (.reg 21 1 [o1 6 (.mv (.k (.bool .false))) 21]) .ret) .skip))) (.reg 22 3 [o1 12 (.mv (.t 7)) 22,o1 13 (.bin .add (.t 12) (.k (.int .i64 1))) 23,o1 7 (.mv (.t 13)) 24])))))) (.seq (.reg 25 4 [o1 29 (.mv (.t 1)) 25,o1 30 (.mv (.t 2)) 26,o1 31 (.call 62 [.t 29, .t 30]) 27,o1 6 (.mv (.t 31)) 28]) .ret))
def rs35:List IRes:=[.tmp 6]
def ir36:IC :=
 .seq (.reg 0 2 [o1 2 (.box 58 (.t 0)) 0,o1 4 (.mv (.k (.bool .false))) 1]) (.seq (.seq (.reg 2 6 [o1 6 (.mv (.t 1)) 2,o1 7 (.len (.t 6)) 3,o1 8 (.faddr 0 (.t 2)) 4,
 o1 9 (.load 1 .false (.t 8)) 5,o1 10 (.len (.t 9)) 6,o1 11 (.bin .neq (.t 7) (.t 10)) 7]) (.cond (.t 11) (.seq (.reg 8 1 [o1 4 (.mv (.k (.bool .false))) 8]) .ret) .skip)) (.seq (.seq (.reg 9 1 [o1 5 (.mv (.k (.int .i64 0))) 9]) (.block 0 (.loop (.seq (.seq (.reg 10 4 [o1 12 (.mv (.t 5)) 10,o1 13 (.mv (.t 1)) 11,o1 14 (.len (.t 13)) 12,o1 15 (.bin .lss (.t 12) (.t 14)) 13]) (.cond (.t 15) .skip (.exit 0))) (.seq (.block 1 (.seq (.draw 14 13 [] [] [o3 18 (.mv (.t 1)) 14,o3 19 (.mv (.t 5)) 15,o3 20 (.iaddr 3 (.t 18) (.t 19)) 16,o3 21 (.load 3 .true (.t 20)) 17,o3 22 (.faddr 0 (.t 2)) 18,o3 23 (.load 1 .false (.t 22)) 19,o3 24 (.mv (.t 5)) 20,o3 25 (.iaddr 3 (.t 23) (.t 24)) 21,o3 26 (.faddr 0 (.t 25)) 22,o3 27 (.load 1 .false (.t 26)) 23,o3 28 (.mv (.t 5)) 24, .mk (.some 29)
 (.bld [(0,1),(1,1),(2,1)] [.string (ByteArray.mk (Array.mk [])), .int .i64 0, .int .i64 0] [(0, .t 27),(1, .t 28)]) .none 25 (.some []) .true [] .false,o3 30 (.pur (.bin .neq 162) [.t 21, .t 29]) 26]) (.cond (.t 30) (.seq (.reg 27 1 [o1 4 (.mv (.k (.bool .false))) 27])
 .ret) .skip))) (.reg 28 3 [o1 16 (.mv (.t 5)) 28,o1 17 (.bin .add (.t 16) (.k (.int .i64 1))) 29,o1 5 (.mv (.t 17)) 30])))))) (.seq (.reg 31 1 [o1 4 (.mv (.k (.bool .true))) 31]) .ret)))
def rs36:List IRes:=[.tmp 4]
def rs38:List IRes:=[.tmp 2]
def rs39:List IRes:=[.tmp 2]
def rs40:List IRes:=[.tmp 4, .tmp 5]
def ir41:IC :=
 .seq (.reg 0 2 [o1 0 (.alloc 84 [.slice .none 0 0, .slice .none 0 0]) 0,o1 1 (.mv (.k (.slice .none 0 0))) 1]) (.seq (.reg 2 1 [o1 2 (.alloc 84 [.slice .none 0 0, .slice .none 0 0]) 2]) (.seq (.reg 3 2 [.mk (.some 6) (.bsl 9 1 6 [.string
 (ByteArray.mk (Array.mk [])), .string (ByteArray.mk (Array.mk [])), .string (ByteArray.mk (Array.mk [])), .string (ByteArray.mk (Array.mk [])), .string (ByteArray.mk (Array.mk
 [])), .string (ByteArray.mk (Array.mk []))] [(0, .k (.string (ByteArray.mk (Array.mk [116,104,101])))),(1, .k (.string (ByteArray.mk (Array.mk [104,111,110,111,117,114,
 97,98,108,101])))),(2, .k (.string (ByteArray.mk (Array.mk [109,101,109,98,101,114])))),(3, .k (.string (ByteArray.mk (Array.mk [101,114])))),(4, .k (.string
 (ByteArray.mk (Array.mk [115,97,121,115])))),(5, .k (.string (ByteArray.mk (Array.mk [110,111]))))]) .none 3 .none .false [] .false,o1 3 (.mv (.t 6)) 4]) (.seq (.reg 5 2 [o1 7 (.bsl 3 1 6 [.int .i64 0, .int .i64 0, .int .i64 0, .int .i64 0, .int .i64 0, .int .i64 0] [(0, .k (.int .i64 1)),(1, .k (.int .i64 1)),(2, .k (.int .i64 2)),(3, .k (.int .i64 3)),(4, .k (.int .i64 4)),(5, .k (.int .i64 5))]) 5,o1 4 (.mv (.t 7)) 6]) (.seq (.seq (.reg 7 1 [o1 5 (.mv (.k (.int .i64 0))) 7]) (.block 0 (.loop (.seq (.seq (.reg 8 4 [o1 8 (.mv (.t 5)) 8,o1 9 (.mv (.t 3)) 9,o1 10 (.len (.t 9)) 10,o1 11 (.bin .lss (.t 8) (.t 10)) 11]) (.cond (.t 11) .skip (.exit 0))) (.seq (.block 1 (.draw 12 15 [] [] [o3 14 (.faddr 0 (.t 2)) 12,o3 15 (.load 1 .false (.t 14)) 13,o3 16 (.mv (.t 3)) 14,o3 17 (.mv (.t 5)) 15,o3 18 (.iaddr 1 (.t 16) (.t 17)) 16,o3 19 (.load 1 .false (.t 18)) 17,o3 20 (.mv (.t 4)) 18,o3 21 (.mv (.t 5)) 19,o3 22 (.iaddr 1 (.t 20) (.t 21)) 20,o3 23 (.load 1 .false (.t 22)) 21, .mk (.some 24) (.bld [(0,1),(1,1),(2,1)]
 [.string (ByteArray.mk (Array.mk [])), .int .i64 0, .int .i64 0] [(0, .t 19),(1, .t 23),(2, .k (.int .i64 7))]) .none 22 (.some []) .true [] .false, .mk (.some 25) (.bsl 132 3 1
 [.string (ByteArray.mk (Array.mk [])), .int .i64 0, .int .i64 0] [(0, .t 24)]) .none 23 (.some []) .true [] .false, .mk (.some 26) (.app 132 3 32 (.t 15) (.t 25)) .none 24 (.some
 [23]) .true [] .false, .mk (.some 27) (.faddr 0 (.t 2)) .none 25 (.some [24,23]) .true [] .false, .mk .none (.store 1 (.t 27) (.t 26)) .none 26 (.some [23,24]) .true []
 .false])) (.reg 27 3 [o1 12 (.mv (.t 5)) 27,o1 13 (.bin .add (.t 12) (.k (.int .i64 1))) 28,o1 5 (.mv (.t 13)) 29])))))) (.seq (.reg 30 3 [o1 28 (.bsl 3 1 1 [.int .i64 0] [(0, .k (.int .i64 5))]) 30,
 o1 29 (.faddr 1 (.t 2)) 31,o2 (.store 1 (.t 29) (.t 28)) 32]) (.seq (.reg 33 9 [o1 30 (.load 2 .true (.t 2)) 33,o1 31 (.bld [(0,1),(1,1),(2,1),(3,1)] [.int .i64 0, .int .i64 0, .int .i64 0, .slice .none 0 0] [(1, .k (.int .i64 3)),(2, .k (.int .i64 1))]) 34, .mk (.some 32) (.bsl 9 1 1 [.string (ByteArray.mk (Array.mk []))] [(0, .k (.string (ByteArray.mk (Array.mk [116,104,
 97,116]))))]) .none 35 .none .false [] .false,o1 33 (.bld [(0,1),(1,1),(2,1),(3,1)] [.int .i64 0, .int .i64 0, .int .i64 0, .slice .none 0 0] [(1, .k (.int .i64 4)),(3, .t 32)]) 36, .mk (.some 34) (.bsl 9 1 1 [.string (ByteArray.mk (Array.mk []))] [(0, .k (.string (ByteArray.mk (Array.mk [77,101,109,98,
 101,114]))))]) .none 37 .none .false [] .false,o1 35 (.bld [(0,1),(1,1),(2,1),(3,1)] [.int .i64 0, .int .i64 0, .int .i64 0, .slice .none 0 0] [(1, .k (.int .i64 1)),(2, .k (.int .i64 2)),(3, .t 34)]) 38,o1 36 (.bsl 133 4 3 [.int .i64 0, .int .i64 0, .int .i64 0, .slice .none 0 0, .int .i64 0, .int .i64 0, .int .i64 0, .slice .none 0 0, .int .i64 0, .int .i64 0, .int .i64 0, .slice .none 0 0] [(0, .t 31),(1, .t 33),(2, .t 35)]) 39,o2 (.store 2 (.t 0) (.t 30)) 40,o1 1 (.mv (.t 36)) 41]) .ret))))))
def rs41:List IRes:=[.cell 0 2 .true, .tmp 1]
def ir46:IC :=
 .seq (.reg 0 1 [o1 2 (.mv (.k (.slice .none 0 0))) 0]) (.seq (.reg 1 3 [o1 3 (.mv (.t 0)) 1,o1 4 (.app 9 1 16 (.k (.slice .none 0 0)) (.t 3)) 2,o1 2 (.mv (.t 4)) 3]) .ret)
def rs46:List IRes:=[.tmp 2]
set_option maxRecDepth 100000 in
theorem comp46:Comp Tryz.prog 61 ir46 rs46 5:=⟨⟨_,_,4,Tryz.func61,rfl,by kernel_rfl,by kernel_rfl,rfl⟩⟩
theorem body46:HasBody Tryz.prog 61:=hasBody_of (by kernel_rfl)
def rs47:List IRes:=[.tmp 2]
def rs48:List IRes:=[.tmp 4]
def ir49:IC :=
 .seq (.reg 0 1 [o1 4 (.mv (.k (.slice .none 0 0))) 0]) (.seq (.reg 1 1 [o1 5 (.mv (.k (.slice .none 0 0))) 1]) (.seq (.seq (.reg 2 1 [o1 6 (.mv (.k (.int .i64 0))) 2]) (.block 0 (.loop (.seq (.seq (.reg 3 4 [o1 7 (.mv (.t 6)) 3,o1 8 (.mv (.t 0)) 4,o1 9 (.len (.t 8)) 5,o1 10 (.bin .lss (.t 7) (.t 9)) 6]) (.cond (.t 10) .skip (.exit 0))) (.seq (.block 1 (.seq (.reg 7 6 [o1 13 (.mv (.t 0)) 7,o1 14 (.mv (.t 6)) 8,o1 15 (.iaddr 1 (.t 13) (.t 14)) 9,o1 16 (.load 1 .false (.t 15)) 10,o1 17 (.mv (.t 1)) 11,o1 18 (.bin .neq (.t 16) (.t 17)) 12]) (.cond (.t 18) (.reg 13
 8 [o1 19 (.mv (.t 5)) 13,o1 20 (.mv (.t 0)) 14,o1 21 (.mv (.t 6)) 15,o1 22 (.iaddr 1 (.t 20) (.t 21)) 16,o1 23 (.load 1 .false (.t 22)) 17,o1 24 (.bsl 3 1 1 [.int .i64 0] [(0, .t 23)]) 18,o1 25 (.app 3 1 8 (.t 19) (.t 24)) 19,o1 5 (.mv (.t 25)) 20]) .skip))) (.reg 21 3 [o1 11 (.mv (.t 6)) 21,o1 12 (.bin .add (.t 11) (.k (.int .i64 1))) 22,o1 6 (.mv (.t 12)) 23])))))) (.seq (.reg 24 2 [o1 26 (.mv (.t 5)) 24,o1 4 (.mv (.t 26)) 25]) .ret)))
def rs49:List IRes:=[.tmp 4]
def rs50:List IRes:=[.tmp 8, .tmp 9]
def rs51:List IRes:=[.tmp 6]
def ir52:IC :=
 .seq (.reg 0 1 [o1 2 (.mv (.k (.slice .none 0 0))) 0]) (.seq (.reg 1 1 [o1 3 (.mv (.k (.slice .none 0 0))) 1]) (.seq (.seq (.reg 2 1 [o1 4 (.mv (.k (.int .i64 0))) 2]) (.block 0 (.loop (.seq (.seq (.reg 3 4 [o1 6 (.mv (.t 4)) 3,o1 7 (.mv (.t 0)) 4,o1 8 (.len (.t 7)) 5,o1 9 (.bin .lss (.t 6) (.t 8)) 6]) (.cond (.t 9) .skip (.exit 0))) (.seq (.block 1 (.seq (.seq (.reg 7 6 [o1 12 (.mv (.t 3)) 7,o1 13 (.mv (.t 0)) 8,o1 14 (.mv (.t 4)) 9,o1 15 (.iaddr 1 (.t 13) (.t 14)) 10,o1 16 (.load 1 .false (.t 15)) 11,o1 17 (.call 62 [.t 12, .t 16]) 12]) (.cond (.t 17) (.exit
 1) .skip)) (.seq (.reg 13 8 [o1 18 (.mv (.t 3)) 13,o1 19 (.mv (.t 0)) 14,o1 20 (.mv (.t 4)) 15,o1 21 (.iaddr 1 (.t 19) (.t 20)) 16,o1 22 (.load 1 .false (.t 21)) 17,o1 23 (.bsl 3 1 1 [.int .i64 0] [(0, .t 22)]) 18,o1 24 (.app 3 1 8 (.t 18) (.t 23)) 19,o1 3 (.mv (.t 24)) 20]) (.seq (.reg 21 4 [o1 25 (.mv (.t 3)) 21,o1 26 (.len (.t 25)) 22,o1 27 (.bin .sub (.t 26) (.k (.int .i64 1))) 23,o1 5 (.mv (.t 27)) 24])
 (.block 2 (.loop (.seq (.seq (.draw 25 14 [] [] [o3 28 (.mv (.t 5)) 25,o3 29 (.bin .gtr (.t 28) (.k (.int .i64 0))) 26,o3 30 (.mv (.t 29)) 27, .mk (.some 31) (.mv (.t 3)) (.some (30, .true)) 28 (.some []) .true [] .false, .mk
 (.some 32) (.mv (.t 5)) (.some (30, .true)) 29 (.some []) .true [] .false, .mk (.some 33) (.iaddr 1 (.t 31) (.t 32)) (.some (30, .true)) 30 (.some []) .true [] .false, .mk (.some
 34) (.load 1 .false (.t 33)) (.some (30, .true)) 31 (.some []) .true [] .false, .mk (.some 35) (.mv (.t 3)) (.some (30, .true)) 32 (.some []) .true [] .false, .mk (.some 36) (.mv
 (.t 5)) (.some (30, .true)) 33 (.some []) .true [] .false, .mk (.some 37) (.bin .sub (.t 36) (.k (.int .i64 1))) (.some (30, .true)) 34 (.some []) .true [] .false, .mk (.some 38)
 (.iaddr 1 (.t 35) (.t 37)) (.some (30, .true)) 35 (.some []) .true [] .false, .mk (.some 39) (.load 1 .false (.t 38)) (.some (30, .true)) 36 (.some []) .true [] .false, .mk (.some
 40) (.bin .lss (.t 34) (.t 39)) (.some (30, .true)) 37 (.some []) .true [] .false,o3 41 (.pick (.t 30) (.t 40) (.k (.bool .false))) 38])
 (.cond (.t 41) .skip (.exit 2))) (.seq (.block 3 (.draw 39 18 [] [] [o3 44 (.mv (.t 3)) 39,o3 45 (.mv (.t 5)) 40,o3 46 (.mv (.t 3)) 41,o3 47 (.mv (.t 5)) 42,o3 48 (.bin .sub (.t 47) (.k (.int .i64 1))) 43,o3 49 (.mv (.t 3)) 44,o3 50 (.mv (.t 5)) 45,o3 51 (.bin .sub (.t 50) (.k (.int .i64 1))) 46,o3 52 (.iaddr 1 (.t 49) (.t 51)) 47,o3 53 (.load 1 .false (.t 52)) 48,o3 54 (.mv (.t 3)) 49,o3 55 (.mv (.t 5)) 50,o3 56 (.iaddr 1 (.t 54) (.t 55)) 51,o3 57 (.load 1 .false (.t 56)) 52,o3 58 (.iaddr 1 (.t 44) (.t 45)) 53,o4 (.store 1 (.t 58) (.t 53)) 54,o3 59 (.iaddr 1 (.t 46) (.t 48)) 55,o4 (.store 1 (.t 59) (.t 57)) 56])) (.reg 57 3 [o1 42 (.mv (.t 5)) 57,o1 43 (.bin .sub (.t 42) (.k (.int .i64 1))) 58,o1 5 (.mv (.t 43)) 59]))))))))) (.reg 60 3 [o1 10 (.mv (.t 4)) 60,o1 11 (.bin .add (.t 10) (.k (.int .i64 1))) 61,o1 4 (.mv (.t 11)) 62])))))) (.seq (.reg 63 2 [o1 60 (.mv (.t 3)) 63,o1 2 (.mv (.t 60)) 64]) .ret)))
def rs52:List IRes:=[.tmp 2]
set_option maxRecDepth 100000 in
theorem comp52:Comp Tryz.prog 28 ir52 rs52 61:=⟨⟨_,_,65,Tryz.func28,rfl,by kernel_rfl,by kernel_rfl,rfl⟩⟩
theorem body52:HasBody Tryz.prog 28:=hasBody_of (by kernel_rfl)
def ir54:IC :=
 .seq (.reg 0 1 [o1 2 (.mv (.k (.bool .false))) 0]) (.seq (.seq (.reg 1 1 [o1 3 (.mv (.k (.int .i64 0))) 1]) (.block 0 (.loop (.seq (.seq (.reg 2 4 [o1 4 (.mv (.t 3)) 2,o1 5 (.mv (.t 0)) 3,o1 6 (.lenS (.t 5)) 4,o1 7 (.bin .lss (.t 4) (.t 6)) 5]) (.cond (.t 7) .skip (.exit 0))) (.seq (.block 1 (.seq
 (.reg 6 10 [o1 10 (.mv (.t 0)) 6,o1 11 (.mv (.t 3)) 7,o1 12 (.pur (.idx 9) [.t 10, .t 11]) 8,o1 13 (.bin .lss (.t 12) (.k (.int .u8 33))) 9,o1 14 (.mv (.t 13)) 10,
 .mk (.some 15) (.mv (.t 0)) (.some (14, .false)) 11 .none .false [] .false, .mk (.some 16) (.mv (.t 3)) (.some (14, .false)) 12 .none .false [] .false, .mk (.some 17) (.pur (.idx
 9) [.t 15, .t 16]) (.some (14, .false)) 13 .none .false [] .false, .mk (.some 18) (.bin .gtr (.t 17) (.k (.int .u8 126))) (.some (14, .false)) 14 .none .false [] .false,o1 19 (.pick (.t 14) (.k (.bool .true)) (.t 18)) 15]) (.cond (.t 19) (.seq (.reg 16 1 [o1 2 (.mv (.k (.bool .false))) 16]) .ret) .skip))) (.reg 17 3 [o1 8 (.mv (.t 3)) 17,o1 9 (.bin .add (.t 8) (.k (.int .i64 1))) 18,o1 3 (.mv (.t 9)) 19])))))) (.seq (.reg 20 4 [o1 20 (.mv (.t 0)) 20,o1 21 (.lenS (.t 20)) 21,o1 22 (.call 49 [.t 21, .k (.int .i64 1), .k (.int .i64 32)]) 22,o1 2 (.mv (.t 22)) 23]) .ret))
def rs54:List IRes:=[.tmp 2]
set_option maxRecDepth 100000 in
theorem comp54:Comp Tryz.prog 48 ir54 rs54 23:=⟨⟨_,_,24,Tryz.func48,rfl,by kernel_rfl,by kernel_rfl,rfl⟩⟩
theorem body54:HasBody Tryz.prog 48:=hasBody_of (by kernel_rfl)
def rs67:List IRes:=[.tmp 8]
end Go.Proofs.YtefnikpoimaiiaaGreat

namespace Go.Proofs.YtefnikpoimaiiaaGreat
open Go.Pal
def irK4:IC :=
 .seq (.reg 0 4 [o1 4 (.box 52 (.t 0)) 0,o1 5 (.box 55 (.t 1)) 1,o1 6 (.box 58 (.t 2)) 2,o1 8 (.mv (.k (.bool .false))) 3]) (.seq (.seq (.reg 4 30 [o1 26 (.load 4 .true (.t 4)) 4,o1 27 (.load 3 .true (.t 5)) 5,o1 28 (.call 15 [.t 26, .t 27]) 6,o1 29 (.un .not (.t 28)) 7,o1 30 (.mv (.t 29)) 8, .mk (.some 31) (.load 4 .true (.t 4)) (.some (30, .false)) 9 .none .false []
 .false, .mk (.some 32) (.call 16 [.t 31]) (.some (30, .false)) 10 .none .false [] .false, .mk (.some 33) (.bin .neq (.t 32) (.k (.int .i64 0))) (.some (30, .false)) 11 .none
 .false [] .false,o1 34 (.pick (.t 30) (.k (.bool .true)) (.t 33)) 12,o1 35 (.mv (.t 34)) 13, .mk
 (.some 36) (.load 3 .true (.t 5)) (.some (35, .false)) 14 .none .false [] .false, .mk (.some 37) (.call 17 [.t 36]) (.some (35, .false)) 15 .none .false [] .false, .mk (.some 38)
 (.un .not (.t 37)) (.some (35, .false)) 16 .none .false [] .false,o1 39 (.pick (.t 35) (.k (.bool .true)) (.t 38)) 17,o1 40 (.mv (.t 39)) 18, .mk (.some 41) (.load 2 .true (.t 6)) (.some (40, .false)) 19 .none .false [] .false, .mk (.some 42) (.mv (.t 3)) (.some (40, .false)) 20
 .none .false [] .false, .mk (.some 43) (.call 18 [.t 41, .t 42]) (.some (40, .false)) 21 .none .false [] .false, .mk (.some 44) (.un .not (.t 43)) (.some (40, .false)) 22 .none
 .false [] .false,o1 45 (.pick (.t 40) (.k (.bool .true)) (.t 44)) 23,o1 46 (.mv (.t 45)) 24, .mk
 (.some 47) (.load 2 .true (.t 6)) (.some (46, .false)) 25 .none .false [] .false, .mk (.some 48) (.call 19 [.t 47]) (.some (46, .false)) 26 .none .false [] .false, .mk (.some 49)
 (.un .not (.t 48)) (.some (46, .false)) 27 .none .false [] .false,o1 50 (.pick (.t 46) (.k (.bool .true)) (.t 49)) 28,o1 51 (.mv (.t 50)) 29, .mk (.some 52) (.mv (.t 3)) (.some (51, .false)) 30 .none .false [] .false, .mk (.some 53) (.len (.t 52)) (.some (51, .false)) 31 .none
 .false [] .false, .mk (.some 54) (.bin .gtr (.t 53) (.k (.int .i64 14))) (.some (51, .false)) 32 .none .false [] .false,o1 55 (.pick (.t 51) (.k (.bool .true)) (.t 54)) 33]) (.cond (.t 55) (.seq (.reg 34 2 [o1 56 (.call 20 []) 34,o1 8 (.mv (.t 56)) 35]) .ret) .skip)) (.seq (.draw 36 10 [5,4] [] [o3 58 (.load 4 .true (.t 4)) 36,o3 59 (.call 22 [.t 58]) 37,o3 60 (.load 3 .true (.t 5)) 38, .mk (.some 61) (.call 23 [.t 60]) .none 39 (.some [37]) .false [] .false,
 .mk (.some 62) (.call 21 [.t 59, .t 61]) .none 40 (.some [39,37]) .false [] .false, .mk (.some 57) (.mv (.t 62)) .none 41 (.some [37,39,40]) .true [] .false, .mk (.some 63)
 (.ext (.t 57) 0) .none 42 (.some [40,39,37]) .true [] .false, .mk (.some 64) (.ext (.t 57) 1) .none 43 (.some [40,39,37]) .true [] .false, .mk (.some 9) (.mv (.t 63)) .none 44
 (.some [37,39,40]) .true [] .false, .mk (.some 10) (.mv (.t 64)) .none 45 (.some [37,39,40]) .true [] .false]) (.seq (.seq (.reg 46 2 [o1 65 (.mv (.t 10)) 46,o1 66 (.bin .neq (.t 65) (.k (.int .i64 0))) 47]) (.cond (.t 66) (.seq (.reg 48 6 [o1 67 (.mv (.t 10)) 48,o1 68 (.bin .eql (.t 67) (.k (.int .i64 9))) 49,o1 69 (.mv (.t 68)) 50, .mk
 (.some 70) (.call 20 []) (.some (69, .true)) 51 .none .false [] .false,o1 71 (.pick (.t 69) (.t 70) (.k (.bool .false))) 52,o1 8 (.mv (.t 71)) 53]) .ret) .skip)) (.seq (.reg 54 1 [o1 11 (.alloc 58 [.slice .none 0 0, .slice .none 0 0]) 54])
 (.seq (.seq (.reg 55 1 [o1 12 (.mv (.k (.int .i64 0))) 55]) (.block 0 (.loop (.seq (.seq (.reg 56 5 [o1 72 (.mv (.t 12)) 56,o1 73 (.faddr 0 (.t 6)) 57,o1 74 (.load 1 .false (.t 73)) 58,o1 75 (.len (.t 74)) 59,o1 76 (.bin .lss (.t 72) (.t 75)) 60]) (.cond (.t 76) .skip (.exit 0))) (.seq (.block 1 (.seq
 (.reg 61 7 [o1 79 (.faddr 0 (.t 6)) 61,o1 80 (.load 1 .false (.t 79)) 62,o1 81 (.mv (.t 12)) 63,o1 82 (.iaddr 3 (.t 80) (.t 81)) 64,o1 83 (.load 3 .true (.t 82)) 65,
 .mk (.some 13) (.alloc 76 [.string (ByteArray.mk (Array.mk [])), .int .i64 0, .int .i64 0]) .none 66 .none .false [] .false,o2 (.store 3 (.t 13) (.t 83)) 67]) (.seq (.reg 68 7 [o1 84 (.faddr 1 (.t 13)) 68,o1 85 (.load 1 .false (.t 84)) 69,
 o1 86 (.faddr 0 (.t 4)) 70,o1 87 (.load 1 .false (.t 86)) 71,o1 88 (.bin .rem (.t 85) (.t 87)) 72,o1 89 (.faddr 1 (.t 13)) 73,o2 (.store 1 (.t 89) (.t 88)) 74])
 (.seq (.seq (.reg 75 4 [o1 90 (.faddr 0 (.t 11)) 75,o1 91 (.load 1 .false (.t 90)) 76,o1 92 (.len (.t 91)) 77,o1 93 (.bin .gtr (.t 92) (.k (.int .i64 0))) 78]) (.cond (.t 93) (.draw 79 14 [] [] [o3 94 (.faddr 1 (.t 13)) 79,o3 95 (.load 1 .false (.t 94)) 80,o3 96 (.faddr 0 (.t 11)) 81,o3 97 (.load 1 .false (.t 96)) 82,o3 98 (.faddr 0 (.t 11)) 83,o3 99 (.load 1 .false (.t 98)) 84,o3 100 (.len (.t 99)) 85,o3 101 (.bin .sub (.t 100) (.k (.int .i64 1))) 86,o3 102 (.iaddr 3 (.t 97) (.t 101)) 87,o3 103 (.faddr 1 (.t 102)) 88,o3 104 (.load 1 .false (.t 103)) 89,o3 105 (.mm .true (.t 95) (.t 104)) 90,o3 106 (.faddr 1 (.t 13)) 91,o4 (.store 1 (.t 106) (.t 105)) 92])
 .skip)) (.seq (.draw 93 10 [13,4] [] [o3 108 (.load 4 .true (.t 4)) 93,o3 109 (.call 22 [.t 108]) 94,o3 110 (.faddr 1 (.t 13)) 95,o3 111 (.load 1 .false (.t 110)) 96, .mk (.some 112)
 (.call 24 [.t 109, .t 111]) .none 97 (.some [94]) .false [] .false, .mk (.some 107) (.mv (.t 112)) .none 98 (.some [94,97]) .true [] .false, .mk (.some 113) (.ext (.t 107) 0)
 .none 99 (.some [97,94]) .true [] .false, .mk (.some 114) (.ext (.t 107) 1) .none 100 (.some [97,94]) .true [] .false, .mk (.some 14) (.mv (.t 113)) .none 101 (.some [94,97])
 .true [] .false, .mk (.some 15) (.mv (.t 114)) .none 102 (.some [94,97]) .true [] .false]) (.seq (.seq (.reg 103 2 [o1 115 (.mv (.t 15)) 103,o1 116 (.bin .neq (.t 115) (.k (.int .i64 0))) 104]) (.cond (.t 116) (.seq (.seq (.reg 105 2 [o1 117 (.mv (.t 15)) 105,o1 118 (.bin .neq (.t 117) (.k (.int .i64 7))) 106]) (.cond (.t 118) (.seq (.reg 107 1 [o1 8 (.mv (.k (.bool .false))) 107]) .ret) .skip)) (.exit 1)) .skip)) (.seq (.seq (.reg 108 22 [o1 119 (.mv (.t 14)) 108,o1 120 (.bin .lss (.t 119) (.k (.int .i64 0))) 109,o1 121 (.mv (.t 120)) 110, .mk (.some 122) (.mv (.t 14))
 (.some (121, .false)) 111 .none .false [] .false, .mk (.some 123) (.mv (.t 9)) (.some (121, .false)) 112 .none .false [] .false, .mk (.some 124) (.len (.t 123)) (.some (121,
 .false)) 113 .none .false [] .false, .mk (.some 125) (.bin .geq (.t 122) (.t 124)) (.some (121, .false)) 114 .none .false [] .false,o1 126 (.pick (.t 121) (.k (.bool .true)) (.t 125)) 115,o1 127 (.mv (.t 126)) 116, .mk (.some 128) (.mv (.t 9)) (.some (127, .false)) 117 .none
 .false [] .false, .mk (.some 129) (.mv (.t 14)) (.some (127, .false)) 118 .none .false [] .false, .mk (.some 130) (.iaddr 1 (.t 128) (.t 129)) (.some (127, .false)) 119 .none
 .false [] .false, .mk (.some 131) (.load 1 .false (.t 130)) (.some (127, .false)) 120 .none .false [] .false, .mk (.some 132) (.bin .lss (.t 131) (.k (.int .i64 0))) (.some (127,
 .false)) 121 .none .false [] .false,o1 133 (.pick (.t 127) (.k (.bool .true)) (.t 132)) 122,o1 134 (.mv (.t 133)) 123, .mk (.some 135) (.mv (.t 9)) (.some (134, .false)) 124 .none .false [] .false, .mk (.some 136) (.mv (.t 14)) (.some (134, .false)) 125 .none .false [] .false,
 .mk (.some 137) (.iaddr 1 (.t 135) (.t 136)) (.some (134, .false)) 126 .none .false [] .false, .mk (.some 138) (.load 1 .false (.t 137)) (.some (134, .false)) 127 .none .false []
 .false, .mk (.some 139) (.bin .gtr (.t 138) (.k (.int .i64 4))) (.some (134, .false)) 128 .none .false [] .false,o1 140 (.pick (.t 134) (.k (.bool .true)) (.t 139)) 129]) (.cond (.t 140) (.seq (.reg 130 1 [o1 8 (.mv (.k (.bool .false))) 130]) .ret) .skip)) (.seq (.reg 131 6
 [o1 141 (.mv (.t 9)) 131,o1 142 (.mv (.t 14)) 132,o1 143 (.iaddr 1 (.t 141) (.t 142)) 133,o1 144 (.load 1 .false (.t 143)) 134,o1 145 (.faddr 2 (.t 13)) 135,o2 (.store 1 (.t 145) (.t 144)) 136]) (.reg 137 7 [o1 146 (.faddr 0 (.t 11)) 137,o1 147 (.load 1 .false (.t 146)) 138,o1 148 (.load 3 .true (.t 13)) 139, .mk (.some 149) (.bsl 76 3 1 [.string (ByteArray.mk
 (Array.mk [])), .int .i64 0, .int .i64 0] [(0, .t 148)]) .none 140 .none .false [] .false,o1 150 (.app 76 3 32 (.t 147) (.t 149)) 141,o1 151 (.faddr 0 (.t 11)) 142,o2 (.store 1 (.t 151) (.t 150)) 143]))))))))) (.reg 144 3 [o1 77 (.mv (.t 12)) 144,o1 78 (.bin .add (.t 77) (.k (.int .i64 1))) 145,o1 12 (.mv (.t 78)) 146])))))) (.seq (.reg 147 12 [o1 153 (.load 2 .true (.t 11)) 147,o1 154 (.call 26 [.t 153]) 148,o1 155 (.mv (.t 3)) 149,o1 156 (.call 27 [.t 155]) 150,o1 157 (.call 25 [.t 154, .t 156]) 151,o1 152 (.mv (.t 157)) 152,o1 158 (.ext (.t 152) 0) 153,o1 159 (.ext (.t 152) 1) 154,o1 160 (.ext (.t 152) 2) 155,o1 16 (.mv (.t 158)) 156,o1 17 (.mv (.t 159)) 157,o1 18 (.mv (.t 160)) 158]) (.seq (.seq (.reg 159 2 [o1 161 (.mv (.t 18)) 159,o1 162 (.bin .neq (.t 161) (.k (.int .i64 0))) 160]) (.cond (.t 162) (.seq (.reg
 161 6 [o1 163 (.mv (.t 18)) 161,o1 164 (.bin .eql (.t 163) (.k (.int .i64 9))) 162,o1 165 (.mv (.t 164)) 163, .mk (.some 166) (.call 20 []) (.some (165, .true)) 164 .none .false [] .false,o1 167 (.pick (.t 165) (.t 166) (.k (.bool .false))) 165,o1 8 (.mv (.t 167)) 166]) .ret) .skip)) (.seq (.seq (.reg 167 1 [o1 19 (.mv (.k (.int .i64 0))) 167]) (.block 2 (.loop (.seq (.seq (.reg 168 4 [o1 168 (.mv (.t 19)) 168,o1 169 (.mv (.t 16)) 169,o1 170 (.len (.t 169)) 170,o1 171 (.bin .lss (.t 168) (.t 170)) 171]) (.cond (.t 171) .skip (.exit 2))) (.seq (.block 3 (.seq (.reg 172 1 [o1 20 (.mv (.k (.slice .none 0 0))) 172]) (.seq (.seq (.reg 173
 1 [o1 21 (.mv (.k (.int .i64 0))) 173]) (.block 4 (.loop (.seq (.seq (.reg 174 8 [o1 174 (.mv (.t 21)) 174,o1 175 (.mv (.t 16)) 175,o1 176 (.mv (.t 19)) 176,o1 177 (.iaddr 4 (.t 175) (.t 176)) 177,o1 178 (.faddr 0 (.t 177)) 178,o1 179 (.load 1 .false (.t 178)) 179,o1 180 (.len (.t 179)) 180,o1 181 (.bin .lss (.t 174) (.t 180)) 181]) (.cond (.t 181) .skip
 (.exit 4))) (.seq (.block 5 (.seq (.reg 182 9 [o1 184 (.mv (.t 16)) 182,o1 185 (.mv (.t 19)) 183,o1 186 (.iaddr 4 (.t 184) (.t 185)) 184,o1 187 (.faddr 0 (.t 186)) 185,o1 188 (.load 1 .false (.t 187)) 186,o1 189 (.mv (.t 21)) 187,o1 190 (.iaddr 1 (.t 188) (.t 189)) 188,o1 191 (.load 1 .false (.t 190)) 189,o1 22 (.mv (.t 191)) 190]) (.seq (.seq (.reg 191 9 [o1 192 (.mv (.t 22)) 191,o1 193 (.bin .lss (.t 192) (.k (.int .i64 0))) 192,o1 194 (.mv (.t 193)) 193, .mk (.some 195) (.mv (.t 22)) (.some (194, .false)) 194 .none .false [] .false, .mk (.some 196) (.faddr 0 (.t 11)) (.some (194, .false))
 195 .none .false [] .false, .mk (.some 197) (.load 1 .false (.t 196)) (.some (194, .false)) 196 .none .false [] .false, .mk (.some 198) (.len (.t 197)) (.some (194, .false)) 197
 .none .false [] .false, .mk (.some 199) (.bin .geq (.t 195) (.t 198)) (.some (194, .false)) 198 .none .false [] .false,o1 200 (.pick (.t 194) (.k (.bool .true)) (.t 199)) 199]) (.cond (.t 200) (.seq (.reg 200 1 [o1 8 (.mv (.k (.bool .false))) 200]) .ret) .skip)) (.seq (.draw
 201 14 [4] [] [o3 202 (.load 4 .true (.t 4)) 201,o3 203 (.call 22 [.t 202]) 202,o3 204 (.faddr 0 (.t 11)) 203,o3 205 (.load 1 .false (.t 204)) 204,o3 206 (.mv (.t 22)) 205,o3 207 (.iaddr 3 (.t 205) (.t 206)) 206,o3 208 (.faddr 1 (.t 207)) 207,o3 209 (.load 1 .false (.t 208)) 208, .mk (.some 210) (.call 24 [.t 203, .t 209]) .none 209 (.some [202]) .false [] .false,
 .mk (.some 201) (.mv (.t 210)) .none 210 (.some [202,209]) .true [] .false, .mk (.some 211) (.ext (.t 201) 0) .none 211 (.some [209,202]) .true [] .false, .mk (.some 212) (.ext
 (.t 201) 1) .none 212 (.some [209,202]) .true [] .false, .mk (.some 23) (.mv (.t 211)) .none 213 (.some [202,209]) .true [] .false, .mk (.some 24) (.mv (.t 212)) .none 214
 (.some [202,209]) .true [] .false]) (.seq (.seq (.reg 215 12 [o1 213 (.mv (.t 24)) 215,o1 214 (.bin .neq (.t 213) (.k (.int .i64 0))) 216,o1 215 (.mv (.t 214)) 217, .mk (.some 216) (.mv (.t 23)) (.some (215, .false)) 218 .none .false []
 .false, .mk (.some 217) (.bin .lss (.t 216) (.k (.int .i64 0))) (.some (215, .false)) 219 .none .false [] .false,o1 218 (.pick (.t 215) (.k (.bool .true)) (.t 217)) 220,o1 219 (.mv (.t 218)) 221, .mk (.some 220) (.mv (.t 23)) (.some (219, .false)) 222 .none .false [] .false,
 .mk (.some 221) (.mv (.t 9)) (.some (219, .false)) 223 .none .false [] .false, .mk (.some 222) (.len (.t 221)) (.some (219, .false)) 224 .none .false [] .false, .mk (.some 223)
 (.bin .geq (.t 220) (.t 222)) (.some (219, .false)) 225 .none .false [] .false,o1 224 (.pick (.t 219) (.k (.bool .true)) (.t 223)) 226])
 (.cond (.t 224) (.seq (.reg 227 1 [o1 8 (.mv (.k (.bool .false))) 227]) .ret) .skip)) (.reg 228 8 [o1 225 (.mv (.t 20)) 228,o1 226 (.mv (.t 9)) 229,o1 227 (.mv (.t 23)) 230,o1 228 (.iaddr 1 (.t 226) (.t 227)) 231,o1 229 (.load 1 .false (.t 228)) 232,o1 230 (.bsl 3 1 1 [.int .i64 0] [(0, .t 229)]) 233,o1 231 (.app 3 1 8 (.t 225) (.t 230)) 234,o1 20 (.mv (.t 231)) 235])))))) (.reg 236 3 [o1 182 (.mv (.t 21)) 236,o1 183 (.bin .add (.t 182) (.k (.int .i64 1))) 237,o1 21 (.mv (.t 183)) 238])))))) (.seq (.reg 239 3 [o1 232 (.mv (.t 20)) 239,o1 233 (.call 28 [.t 232]) 240,o1 20 (.mv (.t 233)) 241]) (.seq (.seq (.reg 242 9 [o1 234 (.mv (.t 20)) 242,o1 235 (.len (.t 234)) 243,o1 236 (.mv (.t 16)) 244,o1 237 (.mv (.t 19)) 245,o1 238 (.iaddr 4 (.t 236) (.t 237)) 246,o1 239 (.faddr 3 (.t 238)) 247,o1 240 (.load 1 .false (.t 239)) 248,o1 241 (.len (.t 240)) 249,o1 242 (.bin .neq (.t 235) (.t 241)) 250]) (.cond (.t 242) (.seq (.reg 251 1 [o1 8 (.mv (.k (.bool .false))) 251])
 .ret) .skip)) (.seq (.reg 252 1 [o1 25 (.mv (.k (.int .i64 0))) 252]) (.block 6 (.loop (.seq (.seq (.reg 253 4 [o1 243 (.mv (.t 25)) 253,o1 244 (.mv (.t 20)) 254,o1 245 (.len (.t 244)) 255,o1 246 (.bin .lss (.t 243) (.t 245)) 256]) (.cond (.t 246) .skip (.exit 6))) (.seq (.block 7 (.seq (.draw 257 13 [] [] [o3 249 (.mv (.t 20)) 257,o3 250 (.mv (.t 25)) 258,o3 251 (.iaddr 1 (.t 249) (.t 250)) 259,o3 252 (.load 1 .false (.t 251)) 260,o3 253 (.mv (.t 16)) 261,o3 254 (.mv (.t 19)) 262,o3 255 (.iaddr 4 (.t 253) (.t 254)) 263,o3 256 (.faddr 3 (.t 255)) 264,o3 257 (.load 1 .false (.t 256)) 265,o3 258 (.mv (.t 25)) 266,o3 259 (.iaddr 1 (.t 257) (.t 258)) 267,o3 260 (.load 1 .false (.t 259)) 268,o3 261 (.bin .neq (.t 252) (.t 260)) 269]) (.cond (.t 261) (.seq (.reg 270 1 [o1 8 (.mv (.k (.bool .false))) 270])
 .ret) .skip))) (.reg 271 3 [o1 247 (.mv (.t 25)) 271,o1 248 (.bin .add (.t 247) (.k (.int .i64 1))) 272,o1 25 (.mv (.t 248)) 273]))))))))))) (.reg 274 3 [o1 172 (.mv (.t 19)) 274,o1 173 (.bin .add (.t 172) (.k (.int .i64 1))) 275,o1 19 (.mv (.t 173)) 276])))))) (.seq (.reg 277 2 [o1 262 (.call 20 []) 277,o1 8 (.mv (.t 262)) 278]) .ret)))))))))
def rsK4:List IRes:=[.tmp 8]
set_option maxRecDepth 100000 in
theorem compK4:Comp Tryz.prog 4 irK4 rsK4 263:=⟨⟨_,_,279,Tryz.func4,rfl,by kernel_rfl,by kernel_rfl,rfl⟩⟩
def irK20:IC :=
 .seq (.reg 0 1 [o1 0 (.mv (.k (.bool .false))) 0]) (.seq (.reg 1 5 [.mk (.some 5) (.bld [(0,1),(1,1),(2,1)] [.string (ByteArray.mk
 (Array.mk [])), .int .i64 0, .int .i64 0] [(0, .k (.string (ByteArray.mk (Array.mk [97])))),(1, .k (.int .i64 3)),(2, .k (.int .i64 4))]) .none 1 .none .false [] .false, .mk
 (.some 6) (.bsl 132 3 1 [.string (ByteArray.mk (Array.mk [])), .int .i64 0, .int .i64 0] [(0, .t 5)]) .none 2 .none .false [] .false,o1 7 (.bld [(0,1),(1,1)] [.slice .none 0 0, .slice .none 0 0] [(0, .t 6)]) 3,o1 1 (.alloc 84 [.slice .none 0 0, .slice .none 0 0]) 4,o2 (.store 2 (.t 1) (.t 7)) 5]) (.seq (.reg 6 12 [o1 9 (.load 2 .true (.t 1)) 6, .mk (.some 10) (.bsl 9 1 1
 [.string (ByteArray.mk (Array.mk []))] [(0, .k (.string (ByteArray.mk (Array.mk [98]))))]) .none 7 .none .false [] .false,o1 11 (.bld [(0,1),(1,1),(2,1),(3,1)] [.int .i64 0, .int .i64 0, .int .i64 0, .slice .none 0 0] [(2, .k (.int .i64 1)),(3, .t 10)]) 8,o1 12 (.bsl 133 4 1 [.int .i64 0, .int .i64 0, .int .i64 0, .slice .none 0 0] [(0, .t 11)]) 9,o1 13 (.call 25 [.t 9, .t 12]) 10,o1 8 (.mv (.t 13)) 11,o1 14 (.ext (.t 8) 0) 12,o1 15 (.ext (.t 8) 1) 13,o1 16 (.ext (.t 8) 2) 14,o1 2 (.mv (.t 14)) 15,o1 3 (.mv (.t 15)) 16,o1 4 (.mv (.t 16)) 17]) (.seq (.reg 18 37 [o1 17 (.mv (.t 4)) 18,o1 18 (.bin .eql (.t 17) (.k (.int .i64 0))) 19,o1 19 (.mv (.t 18)) 20, .mk (.some 20) (.mv (.t 2)) (.some (19, .true)) 21 .none .false []
 .false, .mk (.some 21) (.len (.t 20)) (.some (19, .true)) 22 .none .false [] .false, .mk (.some 22) (.bin .eql (.t 21) (.k (.int .i64 1))) (.some (19, .true)) 23 .none .false []
 .false,o1 23 (.pick (.t 19) (.t 22) (.k (.bool .false))) 24,o1 24 (.mv (.t 23)) 25, .mk (.some 25)
 (.mv (.t 3)) (.some (24, .true)) 26 .none .false [] .false, .mk (.some 26) (.len (.t 25)) (.some (24, .true)) 27 .none .false [] .false, .mk (.some 27) (.bin .eql (.t 26) (.k
 (.int .i64 0))) (.some (24, .true)) 28 .none .false [] .false,o1 28 (.pick (.t 24) (.t 27) (.k (.bool .false))) 29,o1 29 (.mv (.t 28)) 30, .mk (.some 30) (.mv (.t 2)) (.some (29, .true)) 31 .none .false [] .false, .mk (.some 31) (.iaddr 4 (.t 30) (.k (.int .i64 0))) (.some (29,
 .true)) 32 .none .false [] .false, .mk (.some 32) (.faddr 1 (.t 31)) (.some (29, .true)) 33 .none .false [] .false, .mk (.some 33) (.load 1 .false (.t 32)) (.some (29, .true)) 34
 .none .false [] .false, .mk (.some 34) (.bin .eql (.t 33) (.k (.int .i64 3))) (.some (29, .true)) 35 .none .false [] .false,o1 35 (.pick (.t 29) (.t 34) (.k (.bool .false))) 36,o1 36 (.mv (.t 35)) 37, .mk (.some 37) (.mv (.t 2)) (.some (36, .true)) 38 .none .false [] .false,
 .mk (.some 38) (.iaddr 4 (.t 37) (.k (.int .i64 0))) (.some (36, .true)) 39 .none .false [] .false, .mk (.some 39) (.faddr 3 (.t 38)) (.some (36, .true)) 40 .none .false []
 .false, .mk (.some 40) (.load 1 .false (.t 39)) (.some (36, .true)) 41 .none .false [] .false, .mk (.some 41) (.len (.t 40)) (.some (36, .true)) 42 .none .false [] .false, .mk
 (.some 42) (.bin .eql (.t 41) (.k (.int .i64 1))) (.some (36, .true)) 43 .none .false [] .false,o1 43 (.pick (.t 36) (.t 42) (.k (.bool .false))) 44,o1 44 (.mv (.t 43)) 45, .mk (.some 45) (.mv (.t 2)) (.some (44, .true)) 46 .none .false [] .false, .mk (.some 46) (.iaddr 4 (.t
 45) (.k (.int .i64 0))) (.some (44, .true)) 47 .none .false [] .false, .mk (.some 47) (.faddr 3 (.t 46)) (.some (44, .true)) 48 .none .false [] .false, .mk (.some 48) (.load 1
 .false (.t 47)) (.some (44, .true)) 49 .none .false [] .false, .mk (.some 49) (.iaddr 1 (.t 48) (.k (.int .i64 0))) (.some (44, .true)) 50 .none .false [] .false, .mk (.some 50)
 (.load 1 .false (.t 49)) (.some (44, .true)) 51 .none .false [] .false, .mk (.some 51) (.bin .eql (.t 50) (.k (.int .i64 4))) (.some (44, .true)) 52 .none .false [] .false,o1 52 (.pick (.t 44) (.t 51) (.k (.bool .false))) 53,o1 0 (.mv (.t 52)) 54]) .ret)))
def rsK20:List IRes:=[.tmp 0]
set_option maxRecDepth 100000 in
theorem compK20:Comp Tryz.prog 20 irK20 rsK20 53:=⟨⟨_,_,55,Tryz.func20,rfl,by kernel_rfl,by kernel_rfl,rfl⟩⟩
theorem bodyK20:HasBody Tryz.prog 20:=hasBody_of (by kernel_rfl)

end Go.Proofs.YtefnikpoimaiiaaGreat
