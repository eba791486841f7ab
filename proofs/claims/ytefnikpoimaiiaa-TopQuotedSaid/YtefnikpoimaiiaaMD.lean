/- The intermediate forms of functions of the program (printed by a program of mine), each checked against the code. The intermediate forms of functions of the program (printed by a program of mine), each checked against the code. The intermediate forms of functions of the program (printed by a program of mine), each checked against the code. The intermediate forms of functions of the program (printed by a program of mine), each checked against the code. The intermediate forms of functions of the program (printed by a program of mine), each checked against the code. The intermediate forms of functions of the program (printed by a program of mine), each checked against the code. The intermediate forms of functions of the program (printed by a program of mine), each checked against the code. The intermediate forms of functions of the program (printed by a program of mine), each checked against the code. -/
import Derived.Test.YtefnikpoimaiiaaMC
import Derived.Test.YtefnikpoimaiiaaProg
import Derived.KernelRfl
set_option linter.unusedSimpArgs false
set_option linter.unusedVariables false
namespace Go.Proofs.Ytefnikpoimaiiaa
open Go.Pal
def ir53:IC :=
 .seq (.reg 1000 2 [o1 1 (.box 79 (.t 0)) 1000,o1 2 (.mv (.k (.bool .false))) 1001]) (.seq (.reg 1002 2
 [o1 3 (.alloc 3 [.int .i64 0]) 1002,o2 (.store 1 (.t 3) (.k (.int .i64 0))) 1003]) (.seq (.reg 1004 2
 [o1 7 (.mkf 105 [] [.t 3]) 1004,o1 4 (.mv (.t 7)) 1005]) (.seq (.reg 1006 2 [o1 5 (.alloc 3 [.int .i64 0]) 1006,o2 (.store 1 (.t 5) (.k (.int .i64 (-1)))) 1007]) (.seq (.reg 1008 2 [o1 8 (.mkf 108 [] [.t 5, .t 1]) 1008,o1 6 (.mv (.t 8)) 1009]) (.seq (.reg 1010 17 [o1 9 (.faddr 0 (.t 1)) 1010,o1 10 (.load 1 .false (.t 9)) 1011,o1 11 (.len (.t 10)) 1012,o1 12 (.bin .leq (.t 11) (.k (.int .i64 60))) 1013,o1 13 (.mv (.t 12)) 1014, .mk (.some 14) (.faddr 0 (.t 1)) (.some
 (13, .true)) 1015 .none .false [] .false, .mk (.some 15) (.load 1 .false (.t 14)) (.some (13, .true)) 1016 .none .false [] .false, .mk (.some 16) (.mv (.t 4)) (.some (13, .true))
 1017 .none .false [] .false, .mk (.some 17) (.call 109 [.t 15, .t 16]) (.some (13, .true)) 1018 .none .false [] .false,o1 18 (.pick (.t 13) (.t 17) (.k (.bool .false))) 1019,o1 19 (.mv (.t 18)) 1020, .mk (.some 20) (.faddr 1 (.t 1)) (.some (19, .true)) 1021 .none .false []
 .false, .mk (.some 21) (.load 1 .false (.t 20)) (.some (19, .true)) 1022 .none .false [] .false, .mk (.some 22) (.mv (.t 6)) (.some (19, .true)) 1023 .none .false [] .false, .mk
 (.some 23) (.call 110 [.t 21, .t 22]) (.some (19, .true)) 1024 .none .false [] .false,o1 24 (.pick (.t 19) (.t 23) (.k (.bool .false))) 1025,
 o1 2 (.mv (.t 24)) 1026]) .ret)))))
def rs53:List IRes:=[.tmp 2]
set_option maxRecDepth 100000 in
theorem comp53:CompAt Try.prog 75 1000 ir53 rs53 25:=⟨⟨_,_,1027,Try.func75,rfl,by kernel_rfl,by kernel_rfl,rfl⟩⟩
theorem body53:HasBody Try.prog 75:=hasBody_of (by kernel_rfl)
def ir57:IC :=
 .seq (.reg 1000 2 [o1 3 (.box 3 (.t 1)) 1000,o1 4 (.mv (.k (.bool .false))) 1001]) (.seq (.draw 1002 15
 [3,0] [3] [o3 5 (.mv (.t 0)) 1002,o3 6 (.nilc (.t 5)) 1003,o3 7 (.faddr 3 (.t 6)) 1004,o3 8 (.load 1 .false (.t 7)) 1005,o3 9 (.load 1 .false (.t 3)) 1006,o3 10 (.call 153 [.t 8, .t 9]) 1007, .mk (.some 11) (.mv (.t 10)) .none 1008 (.some [1007]) .true [] .false, .mk (.some
 12) (.mv (.t 0)) (.some (11, .true)) 1009 (.some [1007]) .true [] .false, .mk (.some 13) (.nilc (.t 12)) (.some (11, .true)) 1010 (.some [1007]) .true [] .false, .mk (.some 14)
 (.faddr 2 (.t 13)) (.some (11, .true)) 1011 (.some [1007]) .true [] .false, .mk (.some 15) (.load 1 .false (.t 14)) (.some (11, .true)) 1012 (.some [1007]) .false [] .false, .mk
 (.some 16) (.mkf 156 [] [.t 3]) (.some (11, .true)) 1013 (.some [1007]) .true [] .false, .mk (.some 17) (.call 155 [.t 15, .t 16]) (.some (11, .true)) 1014 (.some [1007]) .false []
 .false, .mk (.some 18) (.pick (.t 11) (.t 17) (.k (.bool .false))) .none 1015 (.some [1014,1007]) .true [] .false, .mk (.some 4) (.mv (.t 18)) .none 1016 (.some [1007,1014])
 .true [] .false]) .ret)
def rs57:List IRes:=[.tmp 4]
set_option maxRecDepth 100000 in
theorem comp57:CompAt Try.prog 116 1000 ir57 rs57 19:=⟨⟨_,_,1017,Try.func116,rfl,by kernel_rfl,by kernel_rfl,rfl⟩⟩
theorem body57:HasBody Try.prog 116:=hasBody_of (by kernel_rfl)
def ir59:IC :=
 .seq (.reg 1000 1 [o1 6 (.mv (.k (.bool .false))) 1000]) (.seq (.reg 1001 10 [o1 7 (.mv (.t 0)) 1001,o1 8 (.len (.t 7)) 1002,o1 9 (.mv (.t 1)) 1003,o1 10 (.mv (.t 2)) 1004,o1 11 (.call 107 [.t 8, .t 9, .t 10]) 1005,o1 12 (.mv (.t 11)) 1006, .mk (.some 13) (.mv (.t
 0)) (.some (12, .true)) 1007 .none .false [] .false, .mk (.some 14) (.call 152 [.t 13, .f 106]) (.some (12, .true)) 1008 .none .false [] .false,o1 15 (.pick (.t 12) (.t 14) (.k (.bool .false))) 1009,o1 6 (.mv (.t 15)) 1010]) .ret)
def rs59:List IRes:=[.tmp 6]
set_option maxRecDepth 100000 in
theorem comp59:CompAt Try.prog 113 1000 ir59 rs59 16:=⟨⟨_,_,1011,Try.func113,rfl,by kernel_rfl,by kernel_rfl,rfl⟩⟩
theorem body59:HasBody Try.prog 113:=hasBody_of (by kernel_rfl)
def ir61:IC :=
 .seq (.reg 1000 2 [o1 1 (.box 79 (.t 0)) 1000,o1 2 (.mv (.k (.pointer .none))) 1001]) (.seq (.reg 1002 4
 [o1 6 (.load 2 .true (.t 1)) 1002,o1 7 (.bld [(0,2),(2,1),(3,1),(4,1)] [.slice .none 0 0, .slice .none 0 0, .slice .none 0 0, .slice .none 0 0, .int .i64 0] [(0, .t 6)]) 1003,o1 8 (.box 151 (.t 7)) 1004,o1 3 (.mv (.t 8)) 1005]) (.seq (.seq (.reg 1006 4 [o1 9 (.faddr 0 (.t 1)) 1006,o1 10 (.load 1 .false (.t 9)) 1007,o1 11 (.len (.t 10)) 1008,o1 12 (.mv (.k (.int .i64 0))) 1009]) (.block 0
 (.loop (.seq (.reg 1010 1 [o1 13 (.bin .lss (.t 12) (.t 11)) 1010]) (.seq (.cond (.t 13) .skip (.exit 0)) (.seq (.block 1 (.seq (.reg 1011 6
 [o1 14 (.mv (.t 12)) 1011,o1 15 (.iaddr 3 (.t 10) (.t 12)) 1012,o1 16 (.load 3 .true (.t 15)) 1013, .mk (.some 5) (.alloc 152 [.string (ByteArray.mk (Array.mk [])), .int .i64 0, .int .i64 0]) .none 1014 .none .false [] .false,o1 4 (.mv (.t 14)) 1015,o2 (.store 3 (.t 5) (.t 16)) 1016]) (.draw 1017 15 [] [] [o3 17 (.mv (.t 3)) 1017,o3 18 (.mv (.t 3)) 1018,o3 19 (.nilc (.t 18)) 1019,o3 20 (.faddr 2 (.t 19)) 1020,o3 21 (.load 1 .false (.t 20)) 1021,o3 22 (.faddr 0 (.t 5)) 1022,o3 23 (.load 1 .false (.t 22)) 1023,o3 24 (.mv (.t 4)) 1024, .mk (.some 25) (.bld [(0,1),(1,1),(2,1)] [.string (ByteArray.mk (Array.mk [])), .int .i64 0, .int .i64 0] [(0, .t 23),(1, .t 24),(2, .k (.int .i64 0))]) .none
 1025 (.some []) .true [] .false, .mk (.some 26) (.bld [(0,3),(3,1)] [.string (ByteArray.mk (Array.mk [])), .int .i64 0, .int .i64 0, .int .i64 0] [(0, .t 25),(1, .k (.int .i64
 0))]) .none 1026 (.some []) .true [] .false, .mk (.some 27) (.bsl 148 4 1 [.string (ByteArray.mk (Array.mk [])), .int .i64 0, .int .i64 0, .int .i64 0] [(0, .t 26)]) .none 1027
 (.some []) .true [] .false, .mk (.some 28) (.apph 148 4 40 (.t 21) (.t 27)) .none 1028 (.some [0,1027]) .true [] .true, .mk (.some 29) (.nilc (.t 17)) .none 1029 (.some [1027])
 .true [] .false, .mk (.some 30) (.faddr 2 (.t 29)) .none 1030 (.some [1027]) .true [] .false, .mk .none (.store 1 (.t 30) (.t 28)) .none 1031 (.some [1027]) .true [] .false])))
 (.reg 1032 2 [o1 31 (.bin .add (.t 12) (.k (.int .i64 1))) 1032,o1 12 (.mv (.t 31)) 1033]))))))) (.seq
 (.reg 1034 2 [o1 32 (.mv (.t 3)) 1034,o1 2 (.mv (.t 32)) 1035]) .ret)))
def rs61:List IRes:=[.tmp 2]
set_option maxRecDepth 100000 in
theorem comp61:CompAt Try.prog 77 1000 ir61 rs61 33:=⟨⟨_,_,1036,Try.func77,rfl,by kernel_rfl,by kernel_rfl,rfl⟩⟩
theorem body61:HasBody Try.prog 77:=hasBody_of (by kernel_rfl)
def ir65:IC :=
 .seq (.reg 1000 1 [o1 3 (.box 154 (.t 1)) 1000]) (.seq (.reg 1001 3 [o1 14 (.mv (.t 0)) 1001,o1 15 (.call 111 [.t 14]) 1002,o1 4 (.mv (.t 15)) 1003]) (.seq (.reg 1004 33 [o1 16 (.faddr 1 (.t 3)) 1004,o1 17 (.load 1 .false (.t 16)) 1005,o1 18 (.bin .geq (.t 17) (.k (.int .i64 0))) 1006,o1 19 (.mv (.t 18)) 1007, .mk (.some 20) (.faddr 2 (.t 3)) (.some (19, .true)) 1008 .none .false [] .false, .mk
 (.some 21) (.load 1 .false (.t 20)) (.some (19, .true)) 1009 .none .false [] .false, .mk (.some 22) (.call 107 [.t 21, .k (.int .i64 0), .k (.int .i64 4)]) (.some (19, .true)) 1010
 .none .false [] .false,o1 23 (.pick (.t 19) (.t 22) (.k (.bool .false))) 1011,o1 24 (.mv (.t 23)) 1012, .mk (.some 25) (.faddr 1 (.t 3)) (.some (24, .true)) 1013 .none .false [] .false, .mk (.some 26) (.load 1 .false (.t 25)) (.some (24, .true)) 1014 .none .false [] .false,
 .mk (.some 27) (.mv (.t 4)) (.some (24, .true)) 1015 .none .false [] .false, .mk (.some 28) (.len (.t 27)) (.some (24, .true)) 1016 .none .false [] .false, .mk (.some 29) (.faddr
 2 (.t 3)) (.some (24, .true)) 1017 .none .false [] .false, .mk (.some 30) (.load 1 .false (.t 29)) (.some (24, .true)) 1018 .none .false [] .false, .mk (.some 31) (.bin .sub (.t
 28) (.t 30)) (.some (24, .true)) 1019 .none .false [] .false, .mk (.some 32) (.bin .leq (.t 26) (.t 31)) (.some (24, .true)) 1020 .none .false [] .false,o1 33 (.pick (.t 24) (.t 32) (.k (.bool .false))) 1021,o1 34 (.mv (.t 33)) 1022, .mk (.some 35) (.faddr 3 (.t 3)) (.some (34,
 .true)) 1023 .none .false [] .false, .mk (.some 36) (.load 1 .false (.t 35)) (.some (34, .true)) 1024 .none .false [] .false, .mk (.some 37) (.call 113 [.t 36, .k (.int .i64 0), .k
 (.int .i64 4)]) (.some (34, .true)) 1025 .none .false [] .false,o1 38 (.pick (.t 34) (.t 37) (.k (.bool .false))) 1026,o1 39 (.mv (.t 38)) 1027, .mk (.some 40) (.faddr 2 (.t 3)) (.some (39, .true)) 1028 .none .false [] .false, .mk (.some 41) (.load 1 .false (.t 40)) (.some (39,
 .true)) 1029 .none .false [] .false, .mk (.some 42) (.faddr 3 (.t 3)) (.some (39, .true)) 1030 .none .false [] .false, .mk (.some 43) (.load 1 .false (.t 42)) (.some (39, .true))
 1031 .none .false [] .false, .mk (.some 44) (.len (.t 43)) (.some (39, .true)) 1032 .none .false [] .false, .mk (.some 45) (.bin .add (.t 41) (.t 44)) (.some (39, .true)) 1033
 .none .false [] .false, .mk (.some 46) (.bin .gtr (.t 45) (.k (.int .i64 0))) (.some (39, .true)) 1034 .none .false [] .false,o1 47 (.pick (.t 39) (.t 46) (.k (.bool .false))) 1035,o1 48 (.call 112 [.t 47]) 1036]) (.seq (.reg 1037 6 [o1 49 (.mv (.t 0)) 1037,o1 50 (.nilc (.t 49)) 1038,o1 51 (.faddr 4 (.t 50)) 1039,o1 52 (.load 1 .false (.t 51)) 1040,o1 53 (.bin .add (.t 52) (.k (.int .i64 1))) 1041,o1 5 (.mv (.t 53)) 1042]) (.seq (.reg 1043 1 [o1 6 (.mv (.k (.int .i64 0))) 1043]) (.seq (.seq (.reg 1044 3 [o1 54 (.faddr 2 (.t 3)) 1044,o1 55 (.load 1 .false (.t 54)) 1045,o1 56 (.bin .gtr (.t 55) (.k (.int .i64 0))) 1046]) (.cond (.t 56) (.reg 1047 6 [o1 57 (.mv (.t 4)) 1047,o1 58 (.faddr 1 (.t 3)) 1048,o1 59 (.load 1 .false (.t 58)) 1049,o1 60 (.iaddr 1 (.t 57) (.t 59)) 1050,o1 61 (.load 1 .false (.t 60)) 1051,o1 6 (.mv (.t 61)) 1052]) (.seq (.reg 1053 3 [o1 62 (.faddr 1 (.t 3)) 1053,o1 63 (.load 1 .false (.t 62)) 1054,o1 64 (.bin .gtr (.t 63) (.k (.int .i64 0))) 1055]) (.cond (.t 64) (.reg 1056 8 [o1 65 (.mv (.t 4)) 1056,o1 66 (.faddr 1 (.t 3)) 1057,o1 67 (.load 1 .false (.t 66)) 1058,o1 68 (.bin .sub (.t 67) (.k (.int .i64 1))) 1059,o1 69 (.iaddr 1 (.t 65) (.t 68)) 1060,o1 70 (.load 1 .false (.t 69)) 1061,o1 71 (.bin .add (.t 70) (.k (.int .i64 1))) 1062,o1 6 (.mv (.t 71)) 1063]) .skip)))) (.seq (.seq (.reg 1064 11 [o1 72 (.mv (.t 4)) 1064,o1 73 (.faddr 1 (.t 3)) 1065,o1 74 (.load 1 .false (.t 73)) 1066,o1 75 (.faddr 1 (.t 3)) 1067,o1 76 (.load 1 .false (.t 75)) 1068,o1 77 (.faddr 2 (.t 3)) 1069,o1 78 (.load 1 .false (.t 77)) 1070,o1 79 (.bin .add (.t 76) (.t 78)) 1071,o1 80 (.slc 1 (.t 72) (.some (.t 74)) (.some (.t 79)) .none) 1072,o1 81 (.len (.t 80)) 1073,o1 82 (.mv (.k (.int .i64 0))) 1074]) (.block 0 (.loop (.seq (.reg 1075 1 [o1 83 (.bin .lss (.t 82) (.t 81)) 1075]) (.seq (.cond (.t 83) .skip (.exit 0)) (.seq (.block 1 (.seq (.reg 1076 3 [o1 84 (.iaddr 1 (.t 80) (.t 82)) 1076,o1 85 (.load 1 .false (.t 84)) 1077,o1 8 (.mv (.t 85)) 1078]) (.reg 1079 11 [o1 86 (.mv (.t 0)) 1079,o1 87 (.mv (.t 0)) 1080,o1 88 (.nilc (.t 87)) 1081,o1 89 (.faddr 2 (.t 88)) 1082,o1 90 (.load 1 .false (.t 89)) 1083,o1 91 (.mv (.t 8)) 1084,o1 92 (.iaddr 4 (.t 90) (.t 91)) 1085,o1 93 (.load 4 .true (.t 92)) 1086,o1 94 (.call 114 [.t 86, .t 93]) 1087,o1 95 (.un .not (.t 94)) 1088,o1 96 (.call 112 [.t 95]) 1089]))) (.reg 1090 2 [o1 97 (.bin .add (.t 82) (.k (.int .i64 1))) 1090,o1 82 (.mv (.t 97)) 1091]))))))) (.seq (.seq (.reg 1092 11 [o1 98 (.mv (.t 4)) 1092,o1 99 (.faddr 1 (.t 3)) 1093,o1 100 (.load 1 .false (.t 99)) 1094,o1 101 (.faddr 1 (.t 3)) 1095,o1 102 (.load 1 .false (.t 101)) 1096,o1 103 (.faddr 2 (.t 3)) 1097,o1 104 (.load 1 .false (.t 103)) 1098,o1 105 (.bin .add (.t 102) (.t 104)) 1099,o1 106 (.slc 1 (.t 98) (.some (.t 100)) (.some (.t 105)) .none) 1100,o1 107 (.len (.t 106)) 1101,o1 108 (.mv (.k (.int .i64 0))) 1102])
 (.block 2 (.loop (.seq (.reg 1103 1 [o1 109 (.bin .lss (.t 108) (.t 107)) 1103]) (.seq (.cond (.t 109) .skip (.exit 2)) (.seq (.block 3 (.seq
 (.reg 1104 3 [o1 110 (.iaddr 1 (.t 106) (.t 108)) 1104,o1 111 (.load 1 .false (.t 110)) 1105,o1 10 (.mv (.t 111)) 1106]) (.reg 1107 9 [o1 112 (.mv (.t 0)) 1107,o1 113 (.nilc (.t 112)) 1108,o1 114 (.faddr 2 (.t 113)) 1109,o1 115 (.load 1 .false (.t 114)) 1110,
 o1 116 (.mv (.t 10)) 1111,o1 117 (.mv (.t 5)) 1112,o1 118 (.iaddr 4 (.t 115) (.t 116)) 1113,o1 119 (.faddr 3 (.t 118)) 1114,o2 (.store 1 (.t 119) (.t 117)) 1115])))
 (.reg 1116 2 [o1 120 (.bin .add (.t 108) (.k (.int .i64 1))) 1116,o1 108 (.mv (.t 120)) 1117])))))))
 (.seq (.reg 1118 1 [o1 11 (.mv (.k (.slice .none 0 0))) 1118]) (.seq (.seq (.reg 1119 4 [o1 121 (.faddr 3 (.t 3)) 1119,o1 122 (.load 1 .false (.t 121)) 1120,o1 123 (.len (.t 122)) 1121,o1 124 (.mv (.k (.int .i64 0))) 1122]) (.block 4 (.loop (.seq (.reg 1123 1 [o1 125 (.bin .lss (.t 124) (.t 123)) 1123])
 (.seq (.cond (.t 125) .skip (.exit 4)) (.seq (.block 5 (.seq (.reg 1124 3 [o1 126 (.iaddr 1 (.t 122) (.t 124)) 1124,o1 127 (.load 1 .false (.t 126)) 1125,o1 13 (.mv (.t 127)) 1126]) (.reg 1127 8 [o1 128 (.mv (.t 11)) 1127,o1 129 (.mv (.t 13)) 1128,o1 130 (.mv (.t 5)) 1129, .mk (.some 131) (.bld [(0,1),
 (1,1),(2,1)] [.string (ByteArray.mk (Array.mk [])), .int .i64 0, .int .i64 0] [(0, .t 129),(1, .k (.int .i64 (-1))),(2, .t 130)]) .none 1130 .none .false [] .false, .mk
 (.some 132) (.bld [(0,3),(3,1)] [.string (ByteArray.mk (Array.mk [])), .int .i64 0, .int .i64 0, .int .i64 0] [(0, .t 131),(1, .k (.int .i64 0))]) .none 1131 .none .false []
 .false, .mk (.some 133) (.bsl 148 4 1 [.string (ByteArray.mk (Array.mk [])), .int .i64 0, .int .i64 0, .int .i64 0] [(0, .t 132)]) .none 1132 .none .false [] .false,o1 134 (.app 148 4 40 (.t 128) (.t 133)) 1133,o1 11 (.mv (.t 134)) 1134]))) (.reg 1135 2 [o1 135 (.bin .add (.t 124) (.k (.int .i64 1))) 1135,o1 124 (.mv (.t 135)) 1136]))))))) (.seq (.reg 1137 4 [o1 136 (.mv (.t 0)) 1137,o1 137 (.mv (.t 6)) 1138,o1 138 (.mv (.t 11)) 1139,
 o1 139 (.call 115 [.t 136, .t 137, .t 138]) 1140]) (.reg 1141 16 [o1 140 (.mv (.t 0)) 1141,o1 141 (.mv (.t 0)) 1142,o1 142 (.mv (.t 5)) 1143,o1 143 (.mv (.t 0)) 1144,o1 144 (.nilc (.t 143)) 1145,o1 145 (.faddr 3 (.t 144)) 1146,o1 146 (.load 1 .false (.t 145)) 1147,o1 147 (.mv (.t 5)) 1148,o1 148 (.bsl 3 1 1 [.int .i64 0] [(0, .t 147)]) 1149,o1 149 (.apph 3 1 8 (.t 146) (.t 148)) 1150,o1 150 (.nilc (.t 140)) 1151,o1 151 (.faddr 4 (.t 150)) 1152,o2 (.store 1 (.t 151) (.t 142)) 1153,o1 152 (.nilc (.t 141)) 1154,o1 153 (.faddr 3 (.t 152)) 1155,o2 (.store 1 (.t 153) (.t 149)) 1156])))))))))))
def rs65:List IRes:=[]
set_option maxRecDepth 100000 in
theorem comp65:CompAt Try.prog 78 1000 ir65 rs65 154:=⟨⟨_,_,1157,Try.func78,rfl,by kernel_rfl,by kernel_rfl,rfl⟩⟩
theorem body65:HasBody Try.prog 78:=hasBody_of (by kernel_rfl)
def ir69:IC :=
 .seq (.reg 1000 1 [o1 3 (.box 154 (.t 1)) 1000]) (.seq (.reg 1001 5 [o1 5 (.mv (.t 0)) 1001,o1 6 (.faddr 0 (.t 3)) 1002,o1 7 (.load 1 .false (.t 6)) 1003,o1 8 (.call 116 [.t 5, .t 7]) 1004,o1 9 (.call 112 [.t 8]) 1005]) (.seq (.reg 1006 10 [o1 10 (.mv (.t 0)) 1006,o1 11 (.mv (.t 0)) 1007,o1 12 (.nilc (.t 11)) 1008,o1 13 (.faddr 2 (.t 12)) 1009,o1 14 (.load 1 .false (.t 13)) 1010,o1 15 (.mkf 118 [] [.t 3]) 1011,o1 16 (.call 117 [.t 14, .t 15]) 1012,o1 17 (.nilc (.t 10)) 1013,o1 18 (.faddr 2 (.t 17)) 1014,o2 (.store 1 (.t 18) (.t 16)) 1015]) (.seq (.seq (.reg 1016 6 [o1 19 (.mv (.t 0)) 1016,
 o1 20 (.nilc (.t 19)) 1017,o1 21 (.faddr 2 (.t 20)) 1018,o1 22 (.load 1 .false (.t 21)) 1019,o1 23 (.len (.t 22)) 1020,o1 24 (.mv (.k (.int .i64 0))) 1021])
 (.block 0 (.loop (.seq (.reg 1022 1 [o1 25 (.bin .lss (.t 24) (.t 23)) 1022]) (.seq (.cond (.t 25) .skip (.exit 0)) (.seq (.block 1 (.seq
 (.reg 1023 2 [o1 26 (.mv (.t 24)) 1023,o1 4 (.mv (.t 26)) 1024]) (.seq (.draw 1025 11 [] [] [o3 27 (.mv (.t 0)) 1025,o3 28 (.nilc (.t 27)) 1026,o3 29 (.faddr 2 (.t 28)) 1027,o3 30 (.load 1 .false (.t 29)) 1028,o3 31 (.mv (.t 4)) 1029,o3 32 (.iaddr 4 (.t 30) (.t 31)) 1030,o3 33 (.faddr 3 (.t 32)) 1031,o3 34 (.load 1 .false (.t 33)) 1032,o3 35 (.faddr 0 (.t 3)) 1033,o3 36 (.load 1 .false (.t 35)) 1034,o3 37 (.bin .eql (.t 34) (.t 36)) 1035]) (.cond (.t 37) (.reg 1036 8 [o1 38 (.mv (.t 0)) 1036,o1 39 (.nilc (.t 38)) 1037,o1 40 (.faddr 2 (.t 39)) 1038,o1 41 (.load 1 .false (.t 40)) 1039,o1 42 (.mv (.t 4)) 1040,o1 43 (.iaddr 4 (.t 41) (.t 42)) 1041,o1 44 (.faddr 3 (.t 43)) 1042,o2 (.store 1 (.t 44) (.k (.int .i64 0))) 1043])
 .skip)))) (.reg 1044 2 [o1 45 (.bin .add (.t 24) (.k (.int .i64 1))) 1044,o1 24 (.mv (.t 45)) 1045]))))))) (.reg 1046 10 [o1 46 (.mv (.t 0)) 1046,o1 47 (.mv (.t 0)) 1047,o1 48 (.nilc (.t 47)) 1048,o1 49 (.faddr 3 (.t 48)) 1049,o1 50 (.load 1 .false (.t 49)) 1050,o1 51 (.mkf 120 [] [.t 3]) 1051,o1 52 (.call 119 [.t 50, .t 51]) 1052,o1 53 (.nilc (.t 46)) 1053,o1 54 (.faddr 3 (.t 53)) 1054,o2 (.store 1 (.t 54) (.t 52)) 1055]))))
def rs69:List IRes:=[]
set_option maxRecDepth 100000 in
theorem comp69:CompAt Try.prog 79 1000 ir69 rs69 55:=⟨⟨_,_,1056,Try.func79,rfl,by kernel_rfl,by kernel_rfl,rfl⟩⟩
theorem body69:HasBody Try.prog 79:=hasBody_of (by kernel_rfl)
def ir75:IC :=
 .seq (.reg 1000 2 [o1 2 (.box 152 (.t 0)) 1000,o1 3 (.mv (.k (.bool .false))) 1001]) (.seq (.reg 1002 15
 [o1 5 (.faddr 0 (.t 2)) 1002,o1 6 (.load 1 .false (.t 5)) 1003,o1 7 (.call 106 [.t 6]) 1004,o1 8 (.mv (.t 7)) 1005, .mk (.some 9) (.faddr 1 (.t 2)) (.some (8, .true)) 1006 .none .false [] .false, .mk
 (.some 10) (.load 1 .false (.t 9)) (.some (8, .true)) 1007 .none .false [] .false, .mk (.some 11) (.load 1 .false (.t 1)) (.some (8, .true)) 1008 .none .false [] .false, .mk
 (.some 12) (.call 107 [.t 10, .t 11, .k (.int .i64 36000)]) (.some (8, .true)) 1009 .none .false [] .false,o1 13 (.pick (.t 8) (.t 12) (.k (.bool .false))) 1010,o1 14 (.mv (.t 13)) 1011, .mk (.some 15) (.faddr 2 (.t 2)) (.some (14, .true)) 1012 .none .false [] .false, .mk
 (.some 16) (.load 1 .false (.t 15)) (.some (14, .true)) 1013 .none .false [] .false, .mk (.some 17) (.call 107 [.t 16, .k (.int .i64 0), .k (.int .i64 99)]) (.some (14, .true))
 1014 .none .false [] .false,o1 18 (.pick (.t 14) (.t 17) (.k (.bool .false))) 1015,o1 4 (.mv (.t 18)) 1016]) (.seq (.reg 1017 3 [o1 19 (.faddr 1 (.t 2)) 1017,o1 20 (.load 1 .false (.t 19)) 1018,o2 (.store 1 (.t 1) (.t 20)) 1019]) (.seq (.reg 1020 2 [o1 21 (.mv (.t 4)) 1020,o1 3 (.mv (.t 21)) 1021]) .ret)))
def rs75:List IRes:=[.tmp 3]
set_option maxRecDepth 100000 in
theorem comp75:CompAt Try.prog 105 1000 ir75 rs75 22:=⟨⟨_,_,1022,Try.func105,rfl,by kernel_rfl,by kernel_rfl,rfl⟩⟩
theorem body75:HasBody Try.prog 105:=hasBody_of (by kernel_rfl)
def ir76:IC :=
 .seq (.reg 1000 1 [o1 2 (.mv (.k (.bool .false))) 1000]) (.seq (.reg 1001 9 [o1 3 (.mv (.t 0)) 1001,o1 4 (.lenS (.t 3)) 1002,o1 5 (.call 107 [.t 4, .k (.int .i64 1), .k (.int .i64 32)]) 1003,o1 6 (.mv (.t 5)) 1004, .mk (.some 7) (.mv (.t 0)) (.some (6, .true)) 1005 .none .false [] .false, .mk (.some 8) (.s2b 5 (.t 7)) (.some (6, .true)) 1006
 .none .false [] .false, .mk (.some 9) (.call 146 [.t 8, .f 147]) (.some (6, .true)) 1007 .none .false [] .false,o1 10 (.pick (.t 6) (.t 9) (.k (.bool .false))) 1008,o1 2 (.mv (.t 10)) 1009]) .ret)
def rs76:List IRes:=[.tmp 2]
set_option maxRecDepth 100000 in
theorem comp76:CompAt Try.prog 106 1000 ir76 rs76 11:=⟨⟨_,_,1010,Try.func106,rfl,by kernel_rfl,by kernel_rfl,rfl⟩⟩
theorem body76:HasBody Try.prog 106:=hasBody_of (by kernel_rfl)
def ir78:IC :=
 .seq (.reg 1000 1 [o1 4 (.mv (.k (.bool .false))) 1000]) (.seq (.reg 1001 9 [o1 6 (.mv (.t 0)) 1001,o1 7 (.load 1 .false (.t 1)) 1002,o1 8 (.bin .add (.t 7) (.k (.int .i64 1))) 1003,o1 9 (.faddr 0 (.t 2)) 1004,o1 10 (.load 1 .false (.t 9)) 1005,o1 11 (.len (.t 10)) 1006,o1 12 (.bin .sub (.t 11) (.k (.int .i64 1))) 1007,o1 13 (.call 107 [.t 6, .t 8, .t 12]) 1008,
 o1 5 (.mv (.t 13)) 1009]) (.seq (.reg 1010 2 [o1 14 (.mv (.t 0)) 1010,o2 (.store 1 (.t 1) (.t 14)) 1011]) (.seq (.reg 1012 2 [o1 15 (.mv (.t 5)) 1012,o1 4 (.mv (.t 15)) 1013]) .ret)))
def rs78:List IRes:=[.tmp 4]
set_option maxRecDepth 100000 in
theorem comp78:CompAt Try.prog 108 1000 ir78 rs78 16:=⟨⟨_,_,1014,Try.func108,rfl,by kernel_rfl,by kernel_rfl,rfl⟩⟩
theorem body78:HasBody Try.prog 108:=hasBody_of (by kernel_rfl)
def ir79:IC :=
 .seq (.reg 1000 2 [o1 3 (.box 232 (.t 1)) 1000,o1 4 (.mv (.k (.bool .false))) 1001]) (.seq (.reg 1002 5
 [o1 5 (.mv (.t 0)) 1002,o1 6 (.mkf 149 [] [.t 3]) 1003,o1 7 (.call 148 [.t 5, .t 6]) 1004,o1 8 (.un .not (.t 7)) 1005,o1 4 (.mv (.t 8)) 1006]) .ret)
def rs79:List IRes:=[.tmp 4]
set_option maxRecDepth 100000 in
theorem comp79:CompAt Try.prog 109 1000 ir79 rs79 9:=⟨⟨_,_,1007,Try.func109,rfl,by kernel_rfl,by kernel_rfl,rfl⟩⟩
theorem body79:HasBody Try.prog 109:=hasBody_of (by kernel_rfl)
def ir80:IC :=
 .seq (.reg 1000 2 [o1 3 (.box 136 (.t 1)) 1000,o1 4 (.mv (.k (.bool .false))) 1001]) (.seq (.reg 1002 5
 [o1 5 (.mv (.t 0)) 1002,o1 6 (.mkf 151 [] [.t 3]) 1003,o1 7 (.call 150 [.t 5, .t 6]) 1004,o1 8 (.un .not (.t 7)) 1005,o1 4 (.mv (.t 8)) 1006]) .ret)
def rs80:List IRes:=[.tmp 4]
set_option maxRecDepth 100000 in
theorem comp80:CompAt Try.prog 110 1000 ir80 rs80 9:=⟨⟨_,_,1007,Try.func110,rfl,by kernel_rfl,by kernel_rfl,rfl⟩⟩
theorem body80:HasBody Try.prog 110:=hasBody_of (by kernel_rfl)
def ir81:IC :=
 .seq (.reg 1000 1 [o1 4 (.mv (.k (.int .i64 0))) 1000]) (.seq (.seq (.reg 1001 3 [o1 6 (.mv (.t 0)) 1001,
 o1 7 (.len (.t 6)) 1002,o1 8 (.mv (.k (.int .i64 0))) 1003]) (.block 0 (.loop (.seq (.reg 1004 1 [o1 9 (.bin .lss (.t 8) (.t 7)) 1004]) (.seq (.cond (.t 9) .skip (.exit 0)) (.seq (.block 1 (.seq (.reg 1005 2 [o1 10 (.mv (.t 8)) 1005,o1 5 (.mv (.t 10)) 1006]) (.seq (.reg 1007 6 [o1 11 (.mv (.t 1)) 1007,o1 12 (.mv (.t 0)) 1008,o1 13 (.mv (.t 5)) 1009,o1 14 (.iaddr 1 (.t 12) (.t 13)) 1010,o1 15 (.load 1 .false (.t 14)) 1011,o1 16 (.callv (.t 11) [.t 15]) 1012])
 (.cond (.t 16) (.seq (.reg 1013 2 [o1 17 (.mv (.t 5)) 1013,o1 4 (.mv (.t 17)) 1014]) .ret) .skip))))
 (.reg 1015 2 [o1 18 (.bin .add (.t 8) (.k (.int .i64 1))) 1015,o1 8 (.mv (.t 18)) 1016]))))))) (.seq
 (.reg 1017 1 [o1 4 (.mv (.k (.int .i64 (-1)))) 1017]) .ret))
def rs81:List IRes:=[.tmp 4]
set_option maxRecDepth 100000 in
theorem comp81:CompAt Try.prog 158 1000 ir81 rs81 19:=⟨⟨_,_,1018,Try.func158,rfl,by kernel_rfl,by kernel_rfl,rfl⟩⟩
theorem body81:HasBody Try.prog 158:=hasBody_of (by kernel_rfl)
def ir83:IC :=
 .seq (.reg 1000 2 [o1 3 (.box 238 (.t 1)) 1000,o1 4 (.mv (.k (.bool .false))) 1001]) (.seq (.reg 1002 5
 [o1 5 (.mv (.t 0)) 1002,o1 6 (.mkf 190 [] [.t 3]) 1003,o1 7 (.call 189 [.t 5, .t 6]) 1004,o1 8 (.un .not (.t 7)) 1005,o1 4 (.mv (.t 8)) 1006]) .ret)
def rs83:List IRes:=[.tmp 4]
set_option maxRecDepth 100000 in
theorem comp83:CompAt Try.prog 155 1000 ir83 rs83 9:=⟨⟨_,_,1007,Try.func155,rfl,by kernel_rfl,by kernel_rfl,rfl⟩⟩
theorem body83:HasBody Try.prog 155:=hasBody_of (by kernel_rfl)
def ir84:IC :=
 .seq (.reg 1000 2 [o1 2 (.box 148 (.t 0)) 1000,o1 3 (.mv (.k (.bool .false))) 1001]) (.seq (.reg 1002 11
 [o1 4 (.faddr 0 (.t 2)) 1002,o1 5 (.faddr 2 (.t 4)) 1003,o1 6 (.load 1 .false (.t 5)) 1004,o1 7 (.load 1 .false (.t 1)) 1005,o1 8 (.bin .neq (.t 6) (.t 7)) 1006,
 o1 9 (.mv (.t 8)) 1007, .mk (.some 10) (.faddr 3 (.t 2)) (.some (9, .false)) 1008 .none .false [] .false, .mk (.some 11) (.load 1 .false (.t
 10)) (.some (9, .false)) 1009 .none .false [] .false, .mk (.some 12) (.bin .eql (.t 11) (.k (.int .i64 0))) (.some (9, .false)) 1010 .none .false [] .false,o1 13 (.pick (.t 9) (.k (.bool .true)) (.t 12)) 1011,o1 3 (.mv (.t 13)) 1012]) .ret)
def rs84:List IRes:=[.tmp 3]
set_option maxRecDepth 100000 in
theorem comp84:CompAt Try.prog 156 1000 ir84 rs84 14:=⟨⟨_,_,1013,Try.func156,rfl,by kernel_rfl,by kernel_rfl,rfl⟩⟩
theorem body84:HasBody Try.prog 156:=hasBody_of (by kernel_rfl)
def ir85:IC :=
 .seq (.reg 1000 2 [o1 3 (.box 69 (.t 1)) 1000,o1 4 (.mv (.k (.bool .false))) 1001]) (.seq (.reg 1002 5
 [o1 5 (.mv (.t 0)) 1002,o1 6 (.mkf 185 [] [.t 3]) 1003,o1 7 (.call 123 [.t 5, .t 6]) 1004,o1 8 (.un .not (.t 7)) 1005,o1 4 (.mv (.t 8)) 1006]) .ret)
def rs85:List IRes:=[.tmp 4]
set_option maxRecDepth 100000 in
theorem comp85:CompAt Try.prog 152 1000 ir85 rs85 9:=⟨⟨_,_,1007,Try.func152,rfl,by kernel_rfl,by kernel_rfl,rfl⟩⟩
theorem body85:HasBody Try.prog 152:=hasBody_of (by kernel_rfl)
def ir91:IC :=
 .seq (.reg 1000 2 [o1 3 (.box 148 (.t 1)) 1000,o1 4 (.mv (.k (.bool .false))) 1001]) (.seq (.draw 1002
 10 [3,0] [] [o3 5 (.mv (.t 0)) 1002,o3 6 (.nilc (.t 5)) 1003,o3 7 (.faddr 0 (.t 6)) 1004,o3 8 (.faddr 1 (.t 7)) 1005,o3 9 (.load 1 .false (.t 8)) 1006,o3 10 (.faddr 0 (.t 3)) 1007,o3 11 (.faddr 1 (.t 10)) 1008,o3 12 (.load 1 .false (.t 11)) 1009,o3 13 (.call 153 [.t 9, .t 12]) 1010, .mk (.some 4) (.mv (.t 13)) .none 1011 (.some
 [1010]) .true [] .false]) .ret)
def rs91:List IRes:=[.tmp 4]
set_option maxRecDepth 100000 in
theorem comp91:CompAt Try.prog 114 1000 ir91 rs91 14:=⟨⟨_,_,1012,Try.func114,rfl,by kernel_rfl,by kernel_rfl,rfl⟩⟩
theorem body91:HasBody Try.prog 114:=hasBody_of (by kernel_rfl)
def ir92:IC :=
 .reg 1000 11 [o1 6 (.mv (.t 0)) 1000,o1 7 (.mv (.t 0)) 1001,o1 8 (.nilc (.t 7)) 1002,o1 9 (.faddr 2 (.t 8)) 1003,o1 10 (.load 1 .false (.t 9)) 1004,o1 11 (.mv (.t 1)) 1005,o1 12 (.mv (.t 2)) 1006,o1 13 (.call 154 [.t 10, .t 11, .t 12]) 1007,o1 14 (.nilc (.t 6)) 1008,o1 15 (.faddr 2 (.t 14)) 1009,o2 (.store 1 (.t 15) (.t 13)) 1010]
def rs92:List IRes:=[]
set_option maxRecDepth 100000 in
theorem comp92:CompAt Try.prog 115 1000 ir92 rs92 16:=⟨⟨_,_,1011,Try.func115,rfl,by kernel_rfl,by kernel_rfl,rfl⟩⟩
theorem body92:HasBody Try.prog 115:=hasBody_of (by kernel_rfl)
def ir94:IC :=
 .seq (.reg 1000 2 [o1 2 (.box 148 (.t 0)) 1000,o1 3 (.mv (.k (.bool .false))) 1001]) (.seq (.reg 1002 7
 [o1 4 (.faddr 0 (.t 2)) 1002,o1 5 (.faddr 2 (.t 4)) 1003,o1 6 (.load 1 .false (.t 5)) 1004,o1 7 (.faddr 0 (.t 1)) 1005,o1 8 (.load 1 .false (.t 7)) 1006,o1 9 (.bin .eql (.t 6) (.t 8)) 1007,o1 3 (.mv (.t 9)) 1008]) .ret)
def rs94:List IRes:=[.tmp 3]
set_option maxRecDepth 100000 in
theorem comp94:CompAt Try.prog 118 1000 ir94 rs94 10:=⟨⟨_,_,1009,Try.func118,rfl,by kernel_rfl,by kernel_rfl,rfl⟩⟩
theorem body94:HasBody Try.prog 118:=hasBody_of (by kernel_rfl)
def ir95:IC :=
 .seq (.reg 1000 1 [o1 3 (.mv (.k (.bool .false))) 1000]) (.seq (.reg 1001 5 [o1 4 (.mv (.t 0)) 1001,o1 5 (.faddr 0 (.t 1)) 1002,o1 6 (.load 1 .false (.t 5)) 1003,o1 7 (.bin .eql (.t 4) (.t 6)) 1004,o1 3 (.mv (.t 7)) 1005]) .ret)
def rs95:List IRes:=[.tmp 3]
set_option maxRecDepth 100000 in
theorem comp95:CompAt Try.prog 120 1000 ir95 rs95 8:=⟨⟨_,_,1006,Try.func120,rfl,by kernel_rfl,by kernel_rfl,rfl⟩⟩
theorem body95:HasBody Try.prog 120:=hasBody_of (by kernel_rfl)
def ir98:IC :=
 .seq (.reg 1000 2 [o1 3 (.box 244 (.t 1)) 1000,o1 4 (.mv (.k (.bool .false))) 1001]) (.seq (.reg 1002 5
 [o1 5 (.mv (.t 0)) 1002,o1 6 (.mkf 183 [] [.t 3]) 1003,o1 7 (.call 159 [.t 5, .t 6]) 1004,o1 8 (.un .not (.t 7)) 1005,o1 4 (.mv (.t 8)) 1006]) .ret)
def rs98:List IRes:=[.tmp 4]
set_option maxRecDepth 100000 in
theorem comp98:CompAt Try.prog 146 1000 ir98 rs98 9:=⟨⟨_,_,1007,Try.func146,rfl,by kernel_rfl,by kernel_rfl,rfl⟩⟩
theorem body98:HasBody Try.prog 146:=hasBody_of (by kernel_rfl)
def ir100:IC :=
 .seq (.reg 1000 1 [o1 4 (.mv (.k (.bool .false))) 1000]) (.seq (.reg 1001 5 [o1 5 (.mv (.t 0)) 1001,o1 6 (.mv (.t 1)) 1002,o1 7 (.call 184 [.t 5, .t 6]) 1003,o1 8 (.bin .geq (.t 7) (.k (.int .i64 0))) 1004,o1 4 (.mv (.t 8)) 1005]) .ret)
def rs100:List IRes:=[.tmp 4]
set_option maxRecDepth 100000 in
theorem comp100:CompAt Try.prog 148 1000 ir100 rs100 9:=⟨⟨_,_,1006,Try.func148,rfl,by kernel_rfl,by kernel_rfl,rfl⟩⟩
theorem body100:HasBody Try.prog 148:=hasBody_of (by kernel_rfl)
def ir101:IC :=
 .seq (.reg 1000 2 [o1 2 (.box 152 (.t 0)) 1000,o1 3 (.mv (.k (.bool .false))) 1001]) (.seq (.reg 1002 5
 [o1 4 (.load 1 .false (.t 1)) 1002,o1 5 (.load 3 .true (.t 2)) 1003,o1 6 (.callv (.t 4) [.t 5]) 1004,o1 7 (.un .not (.t 6)) 1005,o1 3 (.mv (.t 7)) 1006]) .ret)
def rs101:List IRes:=[.tmp 3]
set_option maxRecDepth 100000 in
theorem comp101:CompAt Try.prog 149 1000 ir101 rs101 8:=⟨⟨_,_,1007,Try.func149,rfl,by kernel_rfl,by kernel_rfl,rfl⟩⟩
theorem body101:HasBody Try.prog 149:=hasBody_of (by kernel_rfl)
def ir102:IC :=
 .seq (.reg 1000 1 [o1 4 (.mv (.k (.bool .false))) 1000]) (.seq (.reg 1001 5 [o1 5 (.mv (.t 0)) 1001,o1 6 (.mv (.t 1)) 1002,o1 7 (.call 158 [.t 5, .t 6]) 1003,o1 8 (.bin .geq (.t 7) (.k (.int .i64 0))) 1004,o1 4 (.mv (.t 8)) 1005]) .ret)
def rs102:List IRes:=[.tmp 4]
set_option maxRecDepth 100000 in
theorem comp102:CompAt Try.prog 150 1000 ir102 rs102 9:=⟨⟨_,_,1006,Try.func150,rfl,by kernel_rfl,by kernel_rfl,rfl⟩⟩
theorem body102:HasBody Try.prog 150:=hasBody_of (by kernel_rfl)
def ir103:IC :=
 .seq (.reg 1000 1 [o1 3 (.mv (.k (.bool .false))) 1000]) (.seq (.reg 1001 5 [o1 4 (.load 1 .false (.t 1)) 1001,o1 5 (.mv (.t 0)) 1002,o1 6 (.callv (.t 4) [.t 5]) 1003,o1 7 (.un .not (.t 6)) 1004,o1 3 (.mv (.t 7)) 1005]) .ret)
def rs103:List IRes:=[.tmp 3]
set_option maxRecDepth 100000 in
theorem comp103:CompAt Try.prog 151 1000 ir103 rs103 8:=⟨⟨_,_,1006,Try.func151,rfl,by kernel_rfl,by kernel_rfl,rfl⟩⟩
theorem body103:HasBody Try.prog 151:=hasBody_of (by kernel_rfl)
def ir105:IC :=
 .seq (.reg 1000 1 [o1 4 (.mv (.k (.bool .false))) 1000]) (.seq (.reg 1001 5 [o1 5 (.mv (.t 0)) 1001,o1 6 (.mv (.t 1)) 1002,o1 7 (.call 157 [.t 5, .t 6]) 1003,o1 8 (.bin .geq (.t 7) (.k (.int .i64 0))) 1004,o1 4 (.mv (.t 8)) 1005]) .ret)
def rs105:List IRes:=[.tmp 4]
set_option maxRecDepth 100000 in
theorem comp105:CompAt Try.prog 189 1000 ir105 rs105 9:=⟨⟨_,_,1006,Try.func189,rfl,by kernel_rfl,by kernel_rfl,rfl⟩⟩
theorem body105:HasBody Try.prog 189:=hasBody_of (by kernel_rfl)
def ir106:IC :=
 .seq (.reg 1000 2 [o1 2 (.box 148 (.t 0)) 1000,o1 3 (.mv (.k (.bool .false))) 1001]) (.seq (.reg 1002 5
 [o1 4 (.load 1 .false (.t 1)) 1002,o1 5 (.load 4 .true (.t 2)) 1003,o1 6 (.callv (.t 4) [.t 5]) 1004,o1 7 (.un .not (.t 6)) 1005,o1 3 (.mv (.t 7)) 1006]) .ret)
def rs106:List IRes:=[.tmp 3]
set_option maxRecDepth 100000 in
theorem comp106:CompAt Try.prog 190 1000 ir106 rs106 8:=⟨⟨_,_,1007,Try.func190,rfl,by kernel_rfl,by kernel_rfl,rfl⟩⟩
theorem body106:HasBody Try.prog 190:=hasBody_of (by kernel_rfl)
def ir107:IC :=
 .seq (.reg 1000 1 [o1 4 (.mv (.k (.bool .false))) 1000]) (.seq (.reg 1001 5 [o1 5 (.mv (.t 0)) 1001,o1 6 (.mv (.t 1)) 1002,o1 7 (.call 161 [.t 5, .t 6]) 1003,o1 8 (.bin .geq (.t 7) (.k (.int .i64 0))) 1004,o1 4 (.mv (.t 8)) 1005]) .ret)
def rs107:List IRes:=[.tmp 4]
set_option maxRecDepth 100000 in
theorem comp107:CompAt Try.prog 123 1000 ir107 rs107 9:=⟨⟨_,_,1006,Try.func123,rfl,by kernel_rfl,by kernel_rfl,rfl⟩⟩
theorem body107:HasBody Try.prog 123:=hasBody_of (by kernel_rfl)
def ir108:IC :=
 .seq (.reg 1000 1 [o1 3 (.mv (.k (.bool .false))) 1000]) (.seq (.reg 1001 5 [o1 4 (.load 1 .false (.t 1)) 1001,o1 5 (.mv (.t 0)) 1002,o1 6 (.callv (.t 4) [.t 5]) 1003,o1 7 (.un .not (.t 6)) 1004,o1 3 (.mv (.t 7)) 1005]) .ret)
def rs108:List IRes:=[.tmp 3]
set_option maxRecDepth 100000 in
theorem comp108:CompAt Try.prog 185 1000 ir108 rs108 8:=⟨⟨_,_,1006,Try.func185,rfl,by kernel_rfl,by kernel_rfl,rfl⟩⟩
theorem body108:HasBody Try.prog 185:=hasBody_of (by kernel_rfl)
def ir111:IC :=
 .seq (.reg 1000 1 [o1 4 (.mv (.k (.int .i64 0))) 1000]) (.seq (.seq (.reg 1001 3 [o1 6 (.mv (.t 0)) 1001,
 o1 7 (.len (.t 6)) 1002,o1 8 (.mv (.k (.int .i64 0))) 1003]) (.block 0 (.loop (.seq (.reg 1004 1 [o1 9 (.bin .lss (.t 8) (.t 7)) 1004]) (.seq (.cond (.t 9) .skip (.exit 0)) (.seq (.block 1 (.seq (.reg 1005 2 [o1 10 (.mv (.t 8)) 1005,o1 5 (.mv (.t 10)) 1006]) (.seq (.reg 1007 6 [o1 11 (.mv (.t 1)) 1007,o1 12 (.mv (.t 0)) 1008,o1 13 (.mv (.t 5)) 1009,o1 14 (.iaddr 4 (.t 12) (.t 13)) 1010,o1 15 (.load 4 .true (.t 14)) 1011,o1 16 (.callv (.t 11) [.t 15]) 1012])
 (.cond (.t 16) (.seq (.reg 1013 2 [o1 17 (.mv (.t 5)) 1013,o1 4 (.mv (.t 17)) 1014]) .ret) .skip))))
 (.reg 1015 2 [o1 18 (.bin .add (.t 8) (.k (.int .i64 1))) 1015,o1 8 (.mv (.t 18)) 1016]))))))) (.seq
 (.reg 1017 1 [o1 4 (.mv (.k (.int .i64 (-1)))) 1017]) .ret))
def rs111:List IRes:=[.tmp 4]
set_option maxRecDepth 100000 in
theorem comp111:CompAt Try.prog 157 1000 ir111 rs111 19:=⟨⟨_,_,1018,Try.func157,rfl,by kernel_rfl,by kernel_rfl,rfl⟩⟩
theorem body111:HasBody Try.prog 157:=hasBody_of (by kernel_rfl)
def ir114:IC :=
 .seq (.reg 1000 1 [o1 4 (.mv (.k (.bool .false))) 1000]) (.seq (.reg 1001 5 [o1 5 (.mv (.t 0)) 1001,o1 6 (.mv (.t 1)) 1002,o1 7 (.call 191 [.t 5, .t 6]) 1003,o1 8 (.bin .geq (.t 7) (.k (.int .i64 0))) 1004,o1 4 (.mv (.t 8)) 1005]) .ret)
def rs114:List IRes:=[.tmp 4]
set_option maxRecDepth 100000 in
theorem comp114:CompAt Try.prog 159 1000 ir114 rs114 9:=⟨⟨_,_,1006,Try.func159,rfl,by kernel_rfl,by kernel_rfl,rfl⟩⟩
theorem body114:HasBody Try.prog 159:=hasBody_of (by kernel_rfl)
def ir115:IC :=
 .seq (.reg 1000 1 [o1 3 (.mv (.k (.bool .false))) 1000]) (.seq (.reg 1001 5 [o1 4 (.load 1 .false (.t 1)) 1001,o1 5 (.mv (.t 0)) 1002,o1 6 (.callv (.t 4) [.t 5]) 1003,o1 7 (.un .not (.t 6)) 1004,o1 3 (.mv (.t 7)) 1005]) .ret)
def rs115:List IRes:=[.tmp 3]
set_option maxRecDepth 100000 in
theorem comp115:CompAt Try.prog 183 1000 ir115 rs115 8:=⟨⟨_,_,1006,Try.func183,rfl,by kernel_rfl,by kernel_rfl,rfl⟩⟩
theorem body115:HasBody Try.prog 183:=hasBody_of (by kernel_rfl)
def ir116:IC :=
 .seq (.reg 1000 1 [o1 4 (.mv (.k (.int .i64 0))) 1000]) (.seq (.seq (.reg 1001 3 [o1 6 (.mv (.t 0)) 1001,
 o1 7 (.len (.t 6)) 1002,o1 8 (.mv (.k (.int .i64 0))) 1003]) (.block 0 (.loop (.seq (.reg 1004 1 [o1 9 (.bin .lss (.t 8) (.t 7)) 1004]) (.seq (.cond (.t 9) .skip (.exit 0)) (.seq (.block 1 (.seq (.reg 1005 2 [o1 10 (.mv (.t 8)) 1005,o1 5 (.mv (.t 10)) 1006]) (.seq (.reg 1007 6 [o1 11 (.mv (.t 1)) 1007,o1 12 (.mv (.t 0)) 1008,o1 13 (.mv (.t 5)) 1009,o1 14 (.iaddr 3 (.t 12) (.t 13)) 1010,o1 15 (.load 3 .true (.t 14)) 1011,o1 16 (.callv (.t 11) [.t 15]) 1012])
 (.cond (.t 16) (.seq (.reg 1013 2 [o1 17 (.mv (.t 5)) 1013,o1 4 (.mv (.t 17)) 1014]) .ret) .skip))))
 (.reg 1015 2 [o1 18 (.bin .add (.t 8) (.k (.int .i64 1))) 1015,o1 8 (.mv (.t 18)) 1016]))))))) (.seq
 (.reg 1017 1 [o1 4 (.mv (.k (.int .i64 (-1)))) 1017]) .ret))
def rs116:List IRes:=[.tmp 4]
set_option maxRecDepth 100000 in
theorem comp116:CompAt Try.prog 184 1000 ir116 rs116 19:=⟨⟨_,_,1018,Try.func184,rfl,by kernel_rfl,by kernel_rfl,rfl⟩⟩
theorem body116:HasBody Try.prog 184:=hasBody_of (by kernel_rfl)
def ir117:IC :=
 .seq (.reg 1000 1 [o1 4 (.mv (.k (.int .i64 0))) 1000]) (.seq (.seq (.reg 1001 3 [o1 6 (.mv (.t 0)) 1001,
 o1 7 (.len (.t 6)) 1002,o1 8 (.mv (.k (.int .i64 0))) 1003]) (.block 0 (.loop (.seq (.reg 1004 1 [o1 9 (.bin .lss (.t 8) (.t 7)) 1004]) (.seq (.cond (.t 9) .skip (.exit 0)) (.seq (.block 1 (.seq (.reg 1005 2 [o1 10 (.mv (.t 8)) 1005,o1 5 (.mv (.t 10)) 1006]) (.seq (.reg 1007 6 [o1 11 (.mv (.t 1)) 1007,o1 12 (.mv (.t 0)) 1008,o1 13 (.mv (.t 5)) 1009,o1 14 (.iaddr 1 (.t 12) (.t 13)) 1010,o1 15 (.load 1 .false (.t 14)) 1011,o1 16 (.callv (.t 11) [.t 15]) 1012])
 (.cond (.t 16) (.seq (.reg 1013 2 [o1 17 (.mv (.t 5)) 1013,o1 4 (.mv (.t 17)) 1014]) .ret) .skip))))
 (.reg 1015 2 [o1 18 (.bin .add (.t 8) (.k (.int .i64 1))) 1015,o1 8 (.mv (.t 18)) 1016]))))))) (.seq
 (.reg 1017 1 [o1 4 (.mv (.k (.int .i64 (-1)))) 1017]) .ret))
def rs117:List IRes:=[.tmp 4]
set_option maxRecDepth 100000 in
theorem comp117:CompAt Try.prog 161 1000 ir117 rs117 19:=⟨⟨_,_,1018,Try.func161,rfl,by kernel_rfl,by kernel_rfl,rfl⟩⟩
theorem body117:HasBody Try.prog 161:=hasBody_of (by kernel_rfl)
def ir131:IC :=
 .seq (.reg 1000 1 [o1 4 (.mv (.k (.int .i64 0))) 1000]) (.seq (.seq (.reg 1001 3 [o1 6 (.mv (.t 0)) 1001,
 o1 7 (.len (.t 6)) 1002,o1 8 (.mv (.k (.int .i64 0))) 1003]) (.block 0 (.loop (.seq (.reg 1004 1 [o1 9 (.bin .lss (.t 8) (.t 7)) 1004]) (.seq (.cond (.t 9) .skip (.exit 0)) (.seq (.block 1 (.seq (.reg 1005 2 [o1 10 (.mv (.t 8)) 1005,o1 5 (.mv (.t 10)) 1006]) (.seq (.reg 1007 6 [o1 11 (.mv (.t 1)) 1007,o1 12 (.mv (.t 0)) 1008,o1 13 (.mv (.t 5)) 1009,o1 14 (.iaddr 1 (.t 12) (.t 13)) 1010,o1 15 (.load 1 .false (.t 14)) 1011,o1 16 (.callv (.t 11) [.t 15]) 1012])
 (.cond (.t 16) (.seq (.reg 1013 2 [o1 17 (.mv (.t 5)) 1013,o1 4 (.mv (.t 17)) 1014]) .ret) .skip))))
 (.reg 1015 2 [o1 18 (.bin .add (.t 8) (.k (.int .i64 1))) 1015,o1 8 (.mv (.t 18)) 1016]))))))) (.seq
 (.reg 1017 1 [o1 4 (.mv (.k (.int .i64 (-1)))) 1017]) .ret))
def rs131:List IRes:=[.tmp 4]
set_option maxRecDepth 100000 in
theorem comp131:CompAt Try.prog 191 1000 ir131 rs131 19:=⟨⟨_,_,1018,Try.func191,rfl,by kernel_rfl,by kernel_rfl,rfl⟩⟩
theorem body131:HasBody Try.prog 191:=hasBody_of (by kernel_rfl)

end Go.Proofs.Ytefnikpoimaiiaa

namespace Go.Proofs.Ytefnikpoimaiiaa
open Go.Pal
def ir26:IC :=
 .seq (.reg 0 5 [o1 2 (.box 79 (.t 0)) 0,o1 4 (.alloc 74 [.slice .none 0 0]) 1,o1 5 (.mv (.k (.slice .none 0 0))) 2,o1 6 (.mv (.k (.int .i64 0))) 3,o1 7 (.mv (.k (.int .i64 0))) 4]) (.seq (.reg 5 11 [o1 12 (.load 2 .true (.t 2)) 5,o1 13 (.mv (.t 1)) 6,o1 14 (.call 51 [.t 12, .t 13]) 7,o1 11 (.mv (.t 14)) 8,o1 15 (.ext (.t 11) 0) 9,o1 16 (.ext (.t 11) 1) 10,o1 17 (.ext (.t 11) 2) 11,o1 8 (.alloc 141 [.pointer .none]) 12,o2 (.store 1 (.t 8) (.t 15)) 13,o1 6 (.mv (.t 16)) 14,o1 7 (.mv (.t 17)) 15]) (.seq (.seq (.reg 16 2 [o1 18 (.mv (.t 7)) 16,o1 19 (.bin .neq (.t 18) (.k (.int .i64 0))) 17]) (.cond (.t 19) (.seq (.reg 18 6 [o1 20 (.mv (.t 6)) 18,o1 21 (.mv (.t 7)) 19,o2 (.store 1 (.t 4) (.k (.slice .none 0 0))) 20,o1 5 (.mv (.k (.slice .none 0 0))) 21,o1 6 (.mv (.t 20)) 22,o1 7 (.mv (.t 21)) 23]) .ret) .skip)) (.seq (.seq (.reg 24 2
 [o1 22 (.load 1 .false (.t 8)) 24,o1 23 (.call 52 [.t 22]) 25]) (.block 0 (.range (.t 23) [24,25]
 (.reg 26 1 [o1 10 (.mv (.t 25)) 26]) (.block 1 (.draw 27 12 [] [] [o3 26 (.load 1 .false (.t 4)) 27,o3 27 (.load 1 .false (.t 8)) 28,o3 28 (.nilc (.t 27)) 29,o3 29 (.faddr 2 (.t 28)) 30,o3 30 (.load 1 .false (.t 29)) 31,o3 31 (.mv (.t 10)) 32,o3 32 (.iaddr 4 (.t 30) (.t 31)) 33,o3 33 (.faddr 0 (.t 32)) 34,o3 34 (.load 3 .true (.t 33)) 35, .mk (.some 35) (.bsl 84 3 1 [.string (ByteArray.mk (Array.mk [])), .int .i64 0, .int .i64 0] [(0, .t 34)]) .none 36
 (.some []) .true [] .false, .mk (.some 36) (.app 84 3 32 (.t 26) (.t 35)) .none 37 (.some [36]) .true [] .false, .mk .none (.store 1 (.t 4) (.t 36)) .none 38 (.some [36,37])
 .true [] .false]))))) (.seq (.drawd 39 9 [] [] [] [.some [4], .some [8], .none, .none, .none, .some [4], .none, .none, .none] [(0,o3 37 (.load 1 .false (.t 4)) 39),(1,o3 38 (.load 1 .false (.t 8)) 40),(2, .mk (.some 39) (.nilc (.t 38)) .none 41 (.some []) .true [1]
 .false),(3, .mk (.some 40) (.faddr 3 (.t 39)) .none 42 (.some []) .true [1,2] .false),(4, .mk (.some 41) (.load 1 .false (.t 40)) .none 43 (.some []) .true [2,1,3] .false),
 (5, .mk .none (.store 1 (.t 4) (.t 37)) .none 44 (.some []) .true [0] .false),(6, .mk (.some 5) (.mv (.t 41)) .none 45 (.some []) .true [0,5,3,1,2,4] .false),(7, .mk (.some
 6) (.mv (.k (.int .i64 0))) .none 46 (.some []) .true [4,2,1,3,5,0,6] .false),(8, .mk (.some 7) (.mv (.k (.int .i64 0))) .none 47 (.some []) .true [6,0,5,3,1,2,4,7]
 .false)]) .ret))))
def rs26:List IRes:=[.cell 4 1 .false, .tmp 5, .tmp 6, .tmp 7]
set_option maxRecDepth 100000 in
theorem comp26:Comp Try.prog 22 ir26 rs26 42:=⟨⟨_,_,48,Try.func22,rfl,by kernel_rfl,by kernel_rfl,rfl⟩⟩
theorem body26:HasBody Try.prog 22:=hasBody_of (by kernel_rfl)
def ir44:IC :=
 .seq (.reg 0 2 [o1 1 (.box 141 (.t 0)) 0,o1 2 (.mv (.k .nilFunc)) 1]) (.seq (.reg 2 2 [o1 3 (.mkf 80 [] [.t 1]) 2,o1 2 (.mv (.t 3)) 3]) .ret)
def rs44:List IRes:=[.tmp 2]
set_option maxRecDepth 100000 in
theorem comp44:Comp Try.prog 52 ir44 rs44 4:=⟨⟨_,_,4,Try.func52,rfl,by kernel_rfl,by kernel_rfl,rfl⟩⟩
theorem body44:HasBody Try.prog 52:=hasBody_of (by kernel_rfl)
def ir72:IC :=
 .seq (.reg 0 1 [o1 3 (.mv (.k (.int .i64 0))) 0]) (.seq (.reg 1 6 [o1 6 (.load 1 .false (.t 1)) 1,o1 7 (.nilc (.t 6)) 2,o1 8 (.faddr 2 (.t 7)) 3,o1 9 (.load 1 .false (.t 8)) 4,o1 10 (.len (.t 9)) 5,o1 11 (.mv (.k (.int .i64 0))) 6]) (.block 0 (.loop (.seq (.reg 7 1
 [o1 12 (.bin .lss (.t 11) (.t 10)) 7]) (.seq (.cond (.t 12) .skip (.exit 0)) (.seq (.block 1 (.seq (.reg 8 6 [o1 13 (.mv (.t 11)) 8,o1 14 (.iaddr 4 (.t 9) (.t 11)) 9,o1 15 (.load 4 .true (.t 14)) 10,
 .mk (.some 5) (.alloc 148 [.string (ByteArray.mk (Array.mk [])), .int .i64 0, .int .i64 0, .int .i64 0]) .none 11 .none .false [] .false,o1 4 (.mv (.t 13)) 12,o2 (.store 4 (.t 5) (.t 15)) 13]) (.seq (.seq (.reg 14 3 [o1 16 (.faddr 3 (.t 5)) 14,o1 17 (.load 1 .false (.t 16)) 15,o1 18 (.bin .neq (.t 17) (.k (.int .i64 0))) 16]) (.cond (.t
 18) (.exit 1) .skip)) (.seq (.seq (.reg 17 5 [o1 19 (.mv (.t 0)) 17,o1 20 (.mv (.t 3)) 18,o1 21 (.mv (.t 4)) 19,o1 22 (.callv (.t 19) [.t 20, .t 21]) 20,o1 23 (.un .not (.t 22)) 21]) (.cond (.t 23) .ret .skip)) (.reg 22 3 [o1 24 (.mv (.t 3)) 22,o1 25 (.bin .add (.t 24) (.k (.int .i64 1))) 23,o1 3 (.mv (.t 25)) 24]))))) (.reg 25 2 [o1 26 (.bin .add (.t 11) (.k (.int .i64 1))) 25,o1 11 (.mv (.t 26)) 26])))))))
def rs72:List IRes:=[]
set_option maxRecDepth 100000 in
theorem comp72:Comp Try.prog 80 ir72 rs72 27:=⟨⟨_,_,27,Try.func80,rfl,by kernel_rfl,by kernel_rfl,rfl⟩⟩
theorem body72:HasBody Try.prog 80:=hasBody_of (by kernel_rfl)
def ir77:IC :=
 .seq (.reg 0 1 [o1 6 (.mv (.k (.bool .false))) 0]) (.seq (.reg 1 9 [o1 7 (.mv (.t 1)) 1,o1 8 (.mv (.t 0)) 2,o1 9 (.bin .leq (.t 7) (.t 8)) 3,o1 10 (.mv (.t 9)) 4,
 .mk (.some 11) (.mv (.t 0)) (.some (10, .true)) 5 .none .false [] .false, .mk (.some 12) (.mv (.t 2)) (.some (10, .true)) 6 .none .false [] .false, .mk (.some 13) (.bin .leq (.t
 11) (.t 12)) (.some (10, .true)) 7 .none .false [] .false,o1 14 (.pick (.t 10) (.t 13) (.k (.bool .false))) 8,o1 6 (.mv (.t 14)) 9]) .ret)
def rs77:List IRes:=[.tmp 6]
set_option maxRecDepth 100000 in
theorem comp77:Comp Try.prog 107 ir77 rs77 15:=⟨⟨_,_,10,Try.func107,rfl,by kernel_rfl,by kernel_rfl,rfl⟩⟩
theorem body77:HasBody Try.prog 107:=hasBody_of (by kernel_rfl)
def ir82:IC :=
 .seq (.reg 0 1 [o1 4 (.mv (.k (.bool .false))) 0]) (.seq (.reg 1 5 [o1 5 (.mv (.t 0)) 1,o1 6 (.mv (.t 1)) 2,o1 7 (.call 186 [.t 5, .t 6]) 3,o1 8 (.bin .geq (.t 7) (.k (.int .i64 0))) 4,o1 4 (.mv (.t 8)) 5]) .ret)
def rs82:List IRes:=[.tmp 4]
set_option maxRecDepth 100000 in
theorem comp82:Comp Try.prog 153 ir82 rs82 9:=⟨⟨_,_,6,Try.func153,rfl,by kernel_rfl,by kernel_rfl,rfl⟩⟩
theorem body82:HasBody Try.prog 153:=hasBody_of (by kernel_rfl)
def ir88:IC :=
 .seq (.reg 0 1 [o1 2 (.alloc 62 [.slice .none 0 0]) 0]) (.seq (.seq (.reg 1 2 [o1 5 (.mv (.t 0)) 1,o1 6 (.call 52 [.t 5]) 2]) (.block 0 (.range (.t 6) [7,8] (.reg 3 1 [o1 4 (.mv (.t 8)) 3]) (.block 1 (.reg
 4 5 [o1 9 (.load 1 .false (.t 2)) 4,o1 10 (.mv (.t 4)) 5,o1 11 (.bsl 3 1 1 [.int .i64 0] [(0, .t 10)]) 6,o1 12 (.app 3 1 8 (.t 9) (.t 11)) 7,o2 (.store 1 (.t 2) (.t 12)) 8]))))) (.seq (.reg 9 2 [o1 13 (.load 1 .false (.t 2)) 9,o2 (.store 1 (.t 2) (.t 13)) 10])
 .ret))
def rs88:List IRes:=[.cell 2 1 .false]
set_option maxRecDepth 100000 in
theorem comp88:Comp Try.prog 111 ir88 rs88 14:=⟨⟨_,_,11,Try.func111,rfl,by kernel_rfl,by kernel_rfl,rfl⟩⟩
theorem body88:HasBody Try.prog 111:=hasBody_of (by kernel_rfl)
def ir90:IC :=
 .seq (.reg 0 2 [o1 2 (.mv (.t 0)) 0,o1 3 (.un .not (.t 2)) 1]) (.cond (.t 3) (.reg 2 3 [o1 4 (.bld [] [] []) 2,o1 5 (.pur (.mki 198) [.t 4]) 3,o2 (.lenS (.k (.bool .true))) 4]) .skip)
def rs90:List IRes:=[]
set_option maxRecDepth 100000 in
theorem comp90:Comp Try.prog 112 ir90 rs90 6:=⟨⟨_,_,5,Try.func112,rfl,by kernel_rfl,by kernel_rfl,rfl⟩⟩
theorem body90:HasBody Try.prog 112:=hasBody_of (by kernel_rfl)
def ir99:IC :=
 .seq (.reg 0 1 [o1 2 (.mv (.k (.bool .false))) 0]) (.seq (.reg 1 7 [o1 3 (.mv (.t 0)) 1,o1 4 (.bin .leq (.k (.int .u8 33)) (.t 3)) 2,o1 5 (.mv (.t 4)) 3, .mk (.some 6) (.mv (.t 0)) (.some (5, .true)) 4
 .none .false [] .false, .mk (.some 7) (.bin .leq (.t 6) (.k (.int .u8 126))) (.some (5, .true)) 5 .none .false [] .false,o1 8 (.pick (.t 5) (.t 7) (.k (.bool .false))) 6,o1 2 (.mv (.t 8)) 7]) .ret)
def rs99:List IRes:=[.tmp 2]
set_option maxRecDepth 100000 in
theorem comp99:Comp Try.prog 147 ir99 rs99 9:=⟨⟨_,_,8,Try.func147,rfl,by kernel_rfl,by kernel_rfl,rfl⟩⟩
theorem body99:HasBody Try.prog 147:=hasBody_of (by kernel_rfl)
def ir104:IC :=
 .seq (.reg 0 1 [o1 4 (.mv (.k (.int .i64 0))) 0]) (.seq (.seq (.reg 1 3 [o1 6 (.mv (.t 0)) 1,o1 7 (.len (.t 6)) 2,o1 8 (.mv (.k (.int .i64 0))) 3]) (.block 0 (.loop (.seq (.reg 4 1 [o1 9 (.bin .lss (.t 8) (.t 7)) 4]) (.seq (.cond (.t 9) .skip (.exit 0)) (.seq (.block 1 (.seq (.reg 5 2 [o1 10 (.mv (.t 8)) 5,
 o1 5 (.mv (.t 10)) 6]) (.seq (.reg 7 6 [o1 11 (.mv (.t 1)) 7,o1 12 (.mv (.t 0)) 8,o1 13 (.mv (.t 5)) 9,o1 14 (.iaddr 1 (.t 12) (.t 13)) 10,o1 15 (.load 1 .false (.t 14)) 11,o1 16 (.bin .eql (.t 11) (.t 15)) 12]) (.cond (.t 16) (.seq (.reg 13 2 [o1 17 (.mv (.t 5)) 13,o1 4 (.mv (.t 17)) 14]) .ret) .skip)))) (.reg 15 2 [o1 18 (.bin .add (.t 8) (.k (.int .i64 1))) 15,o1 8 (.mv (.t 18)) 16]))))))) (.seq (.reg 17 1 [o1 4 (.mv (.k (.int .i64 (-1)))) 17]) .ret))
def rs104:List IRes:=[.tmp 4]
set_option maxRecDepth 100000 in
theorem comp104:Comp Try.prog 186 ir104 rs104 19:=⟨⟨_,_,18,Try.func186,rfl,by kernel_rfl,by kernel_rfl,rfl⟩⟩
theorem body104:HasBody Try.prog 186:=hasBody_of (by kernel_rfl)

end Go.Proofs.Ytefnikpoimaiiaa

namespace Go.Proofs.Ytefnikpoimaiiaa
open Go.Pal
def ir55:IC :=
 .seq (.reg 1000 1 [o1 4 (.mv (.k (.slice .none 0 0))) 1000]) (.seq (.reg 1001 4 [o1 8 (.mv (.t 0)) 1001,
 o1 9 (.mv (.t 1)) 1002,o1 10 (.call 158 [.t 8, .t 9]) 1003,o1 5 (.mv (.t 10)) 1004]) (.seq (.seq (.reg 1005 2 [o1 11 (.mv (.t 5)) 1005,o1 12 (.bin .eql (.t 11) (.k (.int .i64 (-1)))) 1006]) (.cond (.t 12) (.seq (.reg 1007 2 [o1 13 (.mv (.t 0)) 1007,o1 4 (.mv (.t 13)) 1008]) .ret) .skip)) (.seq (.seq (.reg 1009 3 [o1 14 (.mv (.t 5)) 1009,o1 15 (.bin .add (.t 14) (.k (.int .i64 1))) 1010,o1 6 (.mv (.t 15)) 1011]) (.block 0 (.loop (.seq (.seq (.reg 1012 4 [o1 16 (.mv (.t 6)) 1012,o1 17 (.mv (.t 0)) 1013,o1 18 (.len (.t 17)) 1014,o1 19 (.bin .lss (.t 16) (.t 18)) 1015]) (.cond (.t 19) .skip (.exit 0))) (.seq (.block 1 (.seq (.reg 1016 5 [o1 22 (.mv (.t 0)) 1016,
 o1 23 (.mv (.t 6)) 1017,o1 24 (.iaddr 1 (.t 22) (.t 23)) 1018,o1 25 (.load 1 .false (.t 24)) 1019,o1 7 (.mv (.t 25)) 1020]) (.seq (.reg 1021 4 [o1 26 (.mv (.t 1)) 1021,o1 27 (.mv (.t 7)) 1022,o1 28 (.callv (.t 26) [.t 27]) 1023,o1 29 (.un .not (.t 28)) 1024]) (.cond (.t 29) (.seq (.reg 1025 5 [o1 30 (.mv (.t 0)) 1025,o1 31 (.mv (.t 5)) 1026,o1 32 (.mv (.t 7)) 1027,o1 33 (.iaddr 1 (.t 30) (.t 31)) 1028,o2 (.store 1 (.t 33) (.t 32)) 1029]) (.reg 1030 3 [o1 34 (.mv (.t 5)) 1030,o1 35 (.bin .add (.t 34) (.k (.int .i64 1))) 1031,o1 5 (.mv (.t 35)) 1032])) .skip)))) (.reg 1033 3 [o1 20 (.mv (.t 6)) 1033,o1 21 (.bin .add (.t 20) (.k (.int .i64 1))) 1034,o1 6 (.mv (.t 21)) 1035]))))))
 (.seq (.reg 1036 4 [o1 36 (.mv (.t 0)) 1036,o1 37 (.mv (.t 5)) 1037,o1 38 (.slc 1 (.t 36) (.some (.t 37)) .none .none) 1038,o2 (.clr [.int .i64 0] (.t 38)) 1039]) (.seq (.reg 1040 4 [o1 39 (.mv (.t 0)) 1040,o1 40 (.mv (.t 5)) 1041,o1 41 (.slc 1 (.t 39) .none (.some (.t 40)) .none) 1042,o1 4 (.mv (.t 41)) 1043]) .ret)))))
def rs55:List IRes:=[.tmp 4]
set_option maxRecDepth 100000 in
theorem comp55:CompAt Try.prog 119 1000 ir55 rs55 42:=⟨⟨_,_,1044,Try.func119,rfl,by kernel_rfl,by kernel_rfl,rfl⟩⟩
theorem body55:HasBody Try.prog 119:=hasBody_of (by kernel_rfl)

def ir93:IC :=
 .seq (.reg 1000 1 [o1 4 (.mv (.k (.slice .none 0 0))) 1000]) (.seq (.reg 1001 4 [o1 8 (.mv (.t 0)) 1001,
 o1 9 (.mv (.t 1)) 1002,o1 10 (.call 157 [.t 8, .t 9]) 1003,o1 5 (.mv (.t 10)) 1004]) (.seq (.seq (.reg 1005 2 [o1 11 (.mv (.t 5)) 1005,o1 12 (.bin .eql (.t 11) (.k (.int .i64 (-1)))) 1006]) (.cond (.t 12) (.seq (.reg 1007 2 [o1 13 (.mv (.t 0)) 1007,o1 4 (.mv (.t 13)) 1008]) .ret) .skip)) (.seq (.seq (.reg 1009 3 [o1 14 (.mv (.t 5)) 1009,o1 15 (.bin .add (.t 14) (.k (.int .i64 1))) 1010,o1 6 (.mv (.t 15)) 1011]) (.block 0 (.loop (.seq (.seq (.reg 1012 4 [o1 16 (.mv (.t 6)) 1012,o1 17 (.mv (.t 0)) 1013,o1 18 (.len (.t 17)) 1014,o1 19 (.bin .lss (.t 16) (.t 18)) 1015]) (.cond (.t 19) .skip (.exit 0))) (.seq (.block 1 (.seq (.reg 1016 6 [o1 22 (.mv (.t 0)) 1016,
 o1 23 (.mv (.t 6)) 1017,o1 24 (.iaddr 4 (.t 22) (.t 23)) 1018,o1 25 (.load 4 .true (.t 24)) 1019, .mk (.some 7) (.alloc 148 [.string (ByteArray.mk (Array.mk [])), .int .i64 0, .int .i64 0, .int .i64 0]) .none 1020 .none .false [] .false,o2 (.store 4 (.t 7) (.t 25)) 1021]) (.seq (.reg 1022 4 [o1 26 (.mv (.t 1)) 1022,o1 27 (.load 4 .true (.t 7)) 1023,o1 28 (.callv (.t 26) [.t 27]) 1024,o1 29 (.un .not (.t 28)) 1025]) (.cond (.t 29) (.seq (.reg 1026 5 [o1 30 (.mv (.t 0)) 1026,o1 31 (.mv (.t 5)) 1027,
 o1 32 (.load 4 .true (.t 7)) 1028,o1 33 (.iaddr 4 (.t 30) (.t 31)) 1029,o2 (.store 4 (.t 33) (.t 32)) 1030]) (.reg 1031 3 [o1 34 (.mv (.t 5)) 1031,o1 35 (.bin .add (.t 34) (.k (.int .i64 1))) 1032,o1 5 (.mv (.t 35)) 1033])) .skip)))) (.reg 1034 3 [o1 20 (.mv (.t 6)) 1034,o1 21 (.bin .add (.t 20) (.k (.int .i64 1))) 1035,o1 6 (.mv (.t 21)) 1036])))))) (.seq (.reg
 1037 4 [o1 36 (.mv (.t 0)) 1037,o1 37 (.mv (.t 5)) 1038,o1 38 (.slc 4 (.t 36) (.some (.t 37)) .none .none) 1039, .mk .none (.clr [.string (ByteArray.mk (Array.mk [])), .int .i64 0, .int .i64 0, .int .i64 0] (.t 38)) .none 1040 .none .false
 [] .false]) (.seq (.reg 1041 4 [o1 39 (.mv (.t 0)) 1041,o1 40 (.mv (.t 5)) 1042,o1 41 (.slc 4 (.t 39) .none (.some (.t 40)) .none) 1043,o1 4 (.mv (.t 41)) 1044]) .ret)))))
def rs93:List IRes:=[.tmp 4]
set_option maxRecDepth 100000 in
theorem comp93:CompAt Try.prog 117 1000 ir93 rs93 42:=⟨⟨_,_,1045,Try.func117,rfl,by kernel_rfl,by kernel_rfl,rfl⟩⟩
theorem body93:HasBody Try.prog 117:=hasBody_of (by kernel_rfl)

def ir110:IC :=
 .seq (.reg 1000 1 [o1 6 (.mv (.k (.slice .none 0 0))) 1000]) (.seq (.reg 1001 3 [o1 10 (.mv (.t 0)) 1001,
 o1 11 (.mv (.t 1)) 1002,o1 12 (.slc 4 (.t 10) (.some (.t 11)) .none .none) 1003]) (.seq (.reg 1004 3
 [o1 13 (.mv (.t 2)) 1004,o1 14 (.len (.t 13)) 1005,o1 7 (.mv (.t 14)) 1006]) (.seq (.seq (.reg 1007 2 [o1 15 (.mv (.t 7)) 1007,o1 16 (.bin .eql (.t 15) (.k (.int .i64 0))) 1008]) (.cond (.t 16) (.seq (.reg 1009 2 [o1 17 (.mv (.t 0)) 1009,o1 6 (.mv (.t 17)) 1010]) .ret) .skip)) (.seq (.reg 1011 3 [o1 18 (.mv (.t 0)) 1011,o1 19 (.len (.t 18)) 1012,o1 8 (.mv (.t 19)) 1013]) (.seq (.seq (.reg 1014 3 [o1 20 (.mv (.t 1)) 1014,o1 21 (.mv (.t 8)) 1015,o1 22 (.bin .eql (.t 20) (.t 21)) 1016]) (.cond (.t 22) (.seq (.reg 1017 4 [o1 23 (.mv (.t 0)) 1017,o1 24 (.mv (.t 2)) 1018,o1 25 (.apph 148 4 40 (.t 23) (.t 24)) 1019,o1 6 (.mv (.t 25)) 1020]) .ret) .skip)) (.seq (.seq (.reg 1021 6 [o1 26 (.mv (.t 8)) 1021,o1 27 (.mv (.t 7)) 1022,o1 28 (.bin .add (.t 26) (.t 27)) 1023,o1 29 (.mv (.t 0)) 1024,o1 30 (.cap (.t 29)) 1025,o1 31 (.bin .gtr (.t 28) (.t 30)) 1026]) (.cond (.t
 31) (.seq (.reg 1027 10 [o1 32 (.mv (.t 0)) 1027,o1 33 (.mv (.t 1)) 1028,o1 34 (.slc 4 (.t 32) .none (.some (.t 33)) .none) 1029,o1 35 (.mv (.t 8)) 1030,o1 36 (.mv (.t 7)) 1031,o1 37 (.bin .add (.t 35) (.t 36)) 1032,o1 38 (.mv (.t 1)) 1033,o1 39 (.bin .sub (.t 37) (.t 38)) 1034, .mk (.some 40) (.appz 148 4 40 [.string (ByteArray.mk (Array.mk [])), .int .i64 0, .int .i64 0, .int .i64 0] (.t 34) (.t
 39)) .none 1035 .none .false [] .false,o1 9 (.mv (.t 40)) 1036]) (.seq (.reg 1037 5 [o1 41 (.mv (.t 9)) 1037,o1 42 (.mv (.t 1)) 1038,o1 43 (.slc 4 (.t 41) (.some (.t 42)) .none .none) 1039,o1 44 (.mv (.t 2)) 1040,o1 45 (.cpy 4 (.t 43) (.t 44)) 1041]) (.seq (.draw 1042 9 [0,9] [] [o3 46 (.mv (.t 9)) 1042,o3 47 (.mv (.t 1)) 1043,o3 48 (.mv (.t 7)) 1044,o3 49 (.bin .add (.t 47) (.t 48)) 1045,o3 50 (.slc 4 (.t 46) (.some (.t 49)) .none .none) 1046,o3 51 (.mv (.t 0)) 1047,o3 52 (.mv (.t 1)) 1048,o3 53 (.slc 4 (.t 51) (.some (.t 52)) .none .none) 1049,o3 54 (.cpy 4 (.t 50) (.t 53)) 1050]) (.seq (.reg 1051 2 [o1 55 (.mv (.t 9)) 1051,o1 6 (.mv (.t 55)) 1052]) .ret)))) .skip)) (.seq (.reg 1053 6 [o1 56 (.mv (.t 0)) 1053,o1 57 (.mv (.t 8)) 1054,o1 58 (.mv (.t 7)) 1055,o1 59 (.bin .add (.t 57) (.t 58)) 1056,o1 60 (.slc 4 (.t 56) .none (.some (.t 59)) .none) 1057,o1 0 (.mv (.t 60)) 1058]) (.seq (.seq (.reg 1059 8 [o1 61 (.mv (.t 2)) 1059,o1 62 (.mv (.t 0)) 1060,o1 63 (.mv (.t 1)) 1061,o1 64 (.mv (.t 7)) 1062,o1 65 (.bin .add (.t 63) (.t 64)) 1063,o1 66 (.slc 4 (.t 62) (.some (.t 65)) .none .none) 1064,o1 67 (.call 187 [.t 61, .t 66]) 1065,o1 68 (.un .not (.t 67)) 1066]) (.cond (.t 68) (.seq (.draw 1067 9 [0] [] [o3 69 (.mv (.t 0)) 1067,o3 70 (.mv (.t 1)) 1068,o3 71 (.mv (.t 7)) 1069,
 o3 72 (.bin .add (.t 70) (.t 71)) 1070,o3 73 (.slc 4 (.t 69) (.some (.t 72)) .none .none) 1071,o3 74 (.mv (.t 0)) 1072,o3 75 (.mv (.t 1)) 1073,o3 76 (.slc 4 (.t 74) (.some (.t 75)) .none .none) 1074,o3 77 (.cpy 4 (.t 73) (.t 76)) 1075]) (.seq (.reg 1076 5 [o1 78 (.mv (.t 0)) 1076,o1 79 (.mv (.t 1)) 1077,o1 80 (.slc 4 (.t 78) (.some (.t 79)) .none .none) 1078,o1 81 (.mv (.t 2)) 1079,o1 82 (.cpy 4 (.t 80) (.t 81)) 1080]) (.seq (.reg
 1081 2 [o1 83 (.mv (.t 0)) 1081,o1 6 (.mv (.t 83)) 1082]) .ret))) .skip)) (.seq (.reg 1083 5 [o1 84 (.mv (.t 0)) 1083,o1 85 (.mv (.t 8)) 1084,o1 86 (.slc 4 (.t 84) (.some (.t 85)) .none .none) 1085,o1 87 (.mv (.t 2)) 1086,o1 88 (.cpy 4 (.t 86) (.t 87)) 1087]) (.seq (.reg 1088 5 [o1 89 (.mv (.t 0)) 1088,o1 90 (.mv (.t 1)) 1089,o1 91 (.slc 4 (.t 89) (.some (.t 90)) .none .none) 1090,o1 92 (.mv (.t 7)) 1091,o1 93 (.call 188 [.t 91, .t 92]) 1092]) (.seq (.reg 1093 2 [o1 94 (.mv (.t 0)) 1093,o1 6 (.mv (.t 94)) 1094]) .ret)))))))))))
def rs110:List IRes:=[.tmp 6]
set_option maxRecDepth 100000 in
theorem comp110:CompAt Try.prog 154 1000 ir110 rs110 95:=⟨⟨_,_,1095,Try.func154,rfl,by kernel_rfl,by kernel_rfl,rfl⟩⟩
theorem body110:HasBody Try.prog 154:=hasBody_of (by kernel_rfl)

end Go.Proofs.Ytefnikpoimaiiaa

namespace Go.Proofs.Ytefnikpoimaiiaa
open Go.Pal
end Go.Proofs.Ytefnikpoimaiiaa

namespace Go.Proofs.Ytefnikpoimaiiaa
open Go.Pal
end Go.Proofs.Ytefnikpoimaiiaa

namespace Go.Proofs.Ytefnikpoimaiiaa
open Go.Pal
end Go.Proofs.Ytefnikpoimaiiaa

namespace Go.Proofs.Ytefnikpoimaiiaa
open Go.Pal
def ir14:IC :=
 .seq (.reg 0 2 [o1 2 (.box 64 (.t 0)) 0,o1 4 (.mv (.k (.bool .false))) 1]) (.seq (.seq (.reg 2 1 [o1 5 (.mv (.k (.int .i64 0))) 2]) (.block 0 (.loop (.seq (.seq (.reg 3 5 [o1 7 (.mv (.t 5)) 3,o1 8 (.faddr 0 (.t 2)) 4,o1 9 (.load 1 .false (.t 8)) 5,o1 10 (.len (.t 9)) 6,o1 11 (.bin .lss (.t 7) (.t 10)) 7]) (.cond (.t 11) .skip (.exit 0))) (.seq (.block 1 (.seq (.reg 8 8 [o1 14 (.faddr 0 (.t 2)) 8,o1 15 (.load 1 .false (.t 14)) 9,o1 16 (.mv (.t 5)) 10,o1 17 (.iaddr 3 (.t 15) (.t 16)) 11,o1 18 (.faddr 0 (.t 17)) 12,o1 19 (.load 1 .false (.t 18)) 13,o1 20 (.lenS (.t 19)) 14,o1 21 (.bin .gtr (.t 20) (.k (.int .i64 40))) 15])
 (.cond (.t 21) (.seq (.reg 16 1 [o1 4 (.mv (.k (.bool .false))) 16]) .ret) .skip))) (.reg 17 3 [o1 12 (.mv (.t 5)) 17,o1 13 (.bin .add (.t 12) (.k (.int .i64 1))) 18,o1 5 (.mv (.t 13)) 19])))))) (.seq
 (.seq (.reg 20 1 [o1 6 (.mv (.k (.int .i64 0))) 20]) (.block 2 (.loop (.seq (.seq (.reg 21 4 [o1 22 (.mv (.t 6)) 21,o1 23 (.mv (.t 1)) 22,o1 24 (.len (.t 23)) 23,o1 25 (.bin .lss (.t 22) (.t 24)) 24]) (.cond (.t 25) .skip (.exit 2))) (.seq (.block 3 (.seq (.reg 25 7 [o1 28 (.mv (.t 1)) 25,o1 29 (.mv (.t 6)) 26,o1 30 (.iaddr 4 (.t 28) (.t 29)) 27,o1 31 (.faddr 3 (.t 30)) 28,o1 32 (.load 1 .false (.t 31)) 29,o1 33 (.call 47 [.t 32]) 30,o1 34 (.un .not (.t 33)) 31]) (.cond (.t 34) (.seq (.reg 32 1 [o1 4 (.mv (.k (.bool .false))) 32]) .ret) .skip))) (.reg 33
 3 [o1 26 (.mv (.t 6)) 33,o1 27 (.bin .add (.t 26) (.k (.int .i64 1))) 34,o1 6 (.mv (.t 27)) 35])))))) (.seq (.reg 36 16 [o1 35 (.faddr 0 (.t 2)) 36,o1 36 (.load 1 .false (.t 35)) 37,o1 37 (.len (.t 36)) 38,o1 38 (.bin .leq (.t 37) (.k (.int .i64 65))) 39,o1 39 (.mv (.t 38)) 40, .mk (.some 40) (.faddr 1 (.t 2)) (.some (39, .true)) 41 .none .false [] .false, .mk (.some 41) (.load 1 .false (.t 40)) (.some
 (39, .true)) 42 .none .false [] .false, .mk (.some 42) (.len (.t 41)) (.some (39, .true)) 43 .none .false [] .false, .mk (.some 43) (.bin .leq (.t 42) (.k (.int .i64 70))) (.some
 (39, .true)) 44 .none .false [] .false,o1 44 (.pick (.t 39) (.t 43) (.k (.bool .false))) 45,o1 45 (.mv (.t 44)) 46, .mk (.some 46) (.mv (.t 1)) (.some (45, .true)) 47 .none .false [] .false, .mk (.some 47) (.len (.t 46)) (.some (45, .true)) 48 .none .false [] .false, .mk
 (.some 48) (.bin .leq (.t 47) (.k (.int .i64 85))) (.some (45, .true)) 49 .none .false [] .false,o1 49 (.pick (.t 45) (.t 48) (.k (.bool .false))) 50,o1 4 (.mv (.t 49)) 51]) .ret)))
def rs14:List IRes:=[.tmp 4]
set_option maxRecDepth 100000 in
theorem comp14:Comp Try.prog 17 ir14 rs14 50:=⟨⟨_,_,52,Try.func17,rfl,by kernel_rfl,by kernel_rfl,rfl⟩⟩
theorem body14:HasBody Try.prog 17:=hasBody_of (by kernel_rfl)
def ir17:IC :=
 .seq (.reg 0 2 [o1 1 (.box 64 (.t 0)) 0,o1 2 (.alloc 79 [.slice .none 0 0, .slice .none 0 0]) 1]) (.seq
 (.reg 2 6 [o1 6 (.faddr 1 (.t 1)) 2,o1 7 (.load 1 .false (.t 6)) 3,o1 8 (.app 3 1 8 (.k (.slice .none 0 0)) (.t 7)) 4,o1 9 (.bld [(0,1),(1,1)] [.slice .none 0 0, .slice .none 0 0] [(1, .t 8)]) 5,
 o1 3 (.alloc 79 [.slice .none 0 0, .slice .none 0 0]) 6,o2 (.store 2 (.t 3) (.t 9)) 7]) (.seq (.seq
 (.reg 8 1 [o1 4 (.mv (.k (.int .i64 0))) 8]) (.block 0 (.loop (.seq (.seq (.reg 9 5 [o1 10 (.mv (.t 4)) 9,o1 11 (.faddr 0 (.t 1)) 10,o1 12 (.load 1 .false (.t 11)) 11,o1 13 (.len (.t 12)) 12,o1 14 (.bin .lss (.t 10) (.t 13)) 13]) (.cond (.t 14) .skip (.exit 0))) (.seq (.block 1 (.seq (.reg 14 7
 [o1 17 (.faddr 0 (.t 1)) 14,o1 18 (.load 1 .false (.t 17)) 15,o1 19 (.mv (.t 4)) 16,o1 20 (.iaddr 3 (.t 18) (.t 19)) 17,o1 21 (.load 3 .true (.t 20)) 18, .mk
 (.some 5) (.alloc 71 [.string (ByteArray.mk (Array.mk [])), .int .i64 0, .int .i64 0]) .none 19 .none .false [] .false,o2 (.store 3 (.t 5) (.t 21)) 20]) (.reg 21 13 [o1 22 (.faddr 0 (.t 3)) 21,o1 23 (.load 1 .false (.t 22)) 22,o1 24 (.faddr 0 (.t 5)) 23,o1 25 (.load 1 .false (.t 24)) 24,o1 26 (.faddr 1 (.t 5)) 25,o1 27 (.load 1 .false (.t 26)) 26,o1 28 (.faddr 2 (.t 5)) 27,o1 29 (.load 1 .false (.t 28)) 28, .mk (.some 30) (.bld [(0,1),(1,1),(2,1)] [.string (ByteArray.mk (Array.mk [])), .int .i64 0, .int .i64 0] [(0, .t 25),(1, .t
 27),(2, .t 29)]) .none 29 .none .false [] .false, .mk (.some 31) (.bsl 152 3 1 [.string (ByteArray.mk (Array.mk [])), .int .i64 0, .int .i64 0] [(0, .t 30)]) .none 30 .none
 .false [] .false,o1 32 (.app 152 3 32 (.t 23) (.t 31)) 31,o1 33 (.faddr 0 (.t 3)) 32,o2 (.store 1 (.t 33) (.t 32)) 33]))) (.reg 34 3 [o1 15 (.mv (.t 4)) 34,o1 16 (.bin .add (.t 15) (.k (.int .i64 1))) 35,o1 4 (.mv (.t 16)) 36])))))) (.seq (.reg 37 2 [o1 34 (.load 2 .true (.t 3)) 37,o2 (.store 2 (.t 2) (.t 34)) 38]) .ret)))
def rs17:List IRes:=[.cell 2 2 .true]
set_option maxRecDepth 100000 in
theorem comp17:Comp Try.prog 23 ir17 rs17 35:=⟨⟨_,_,39,Try.func23,rfl,by kernel_rfl,by kernel_rfl,rfl⟩⟩
theorem body17:HasBody Try.prog 23:=hasBody_of (by kernel_rfl)
def ir18:IC :=
 .seq (.reg 0 1 [o1 2 (.mv (.k (.slice .none 0 0))) 0]) (.seq (.reg 1 1 [o1 3 (.mv (.k (.slice .none 0 0))) 1]) (.seq (.seq (.reg 2 1 [o1 4 (.mv (.k (.int .i64 0))) 2]) (.block 0 (.loop (.seq (.seq (.reg 3 4 [o1 5 (.mv (.t 4)) 3,o1 6 (.mv (.t 0)) 4,o1 7 (.len (.t 6)) 5,o1 8 (.bin .lss (.t 5) (.t 7)) 6]) (.cond (.t 8) .skip (.exit 0))) (.seq (.block 1 (.draw 7 26 [] [] [o3 11 (.mv (.t 3)) 7,o3 12 (.mv (.t 0)) 8,o3 13 (.mv (.t 4)) 9,o3 14 (.iaddr 4 (.t 12) (.t 13)) 10,o3 15 (.faddr 0 (.t 14)) 11,o3 16 (.load 1 .false (.t 15)) 12,o3 17 (.mv (.t 0)) 13,o3 18 (.mv (.t 4)) 14,o3 19 (.iaddr 4 (.t 17) (.t 18)) 15,o3 20 (.faddr 1 (.t 19)) 16,o3 21 (.load 1 .false (.t 20)) 17,o3 22 (.mv (.t 0)) 18,o3 23 (.mv (.t 4)) 19,o3 24 (.iaddr 4 (.t 22) (.t 23)) 20,o3 25 (.faddr 2 (.t 24)) 21,o3 26 (.load 1 .false (.t 25)) 22,o3 27 (.mv (.t 0)) 23,o3 28 (.mv (.t 4)) 24,o3 29 (.iaddr 4 (.t 27) (.t 28)) 25,o3 30 (.faddr 3 (.t 29)) 26,o3 31 (.load 1 .false (.t 30)) 27,o3 32 (.call 53 [.t 31]) 28, .mk (.some 33) (.bld [(0,1),(1,1),(2,1),(3,1)] [.int .i64 0, .int .i64 0, .int .i64 0, .slice .none 0 0] [(0, .t
 16),(1, .t 21),(2, .t 26),(3, .t 32)]) .none 29 (.some [28]) .true [] .false, .mk (.some 34) (.bsl 154 4 1 [.int .i64 0, .int .i64 0, .int .i64 0, .slice .none 0 0] [(0, .t
 33)]) .none 30 (.some [28]) .true [] .false, .mk (.some 35) (.app 154 4 48 (.t 11) (.t 34)) .none 31 (.some [28,30]) .false [] .false, .mk (.some 3) (.mv (.t 35)) .none 32 (.some
 [30,28,31]) .true [] .false])) (.reg 33 3 [o1 9 (.mv (.t 4)) 33,o1 10 (.bin .add (.t 9) (.k (.int .i64 1))) 34,o1 4 (.mv (.t 10)) 35])))))) (.seq (.reg 36 2 [o1 36 (.mv (.t 3)) 36,o1 2 (.mv (.t 36)) 37]) .ret)))
def rs18:List IRes:=[.tmp 2]
set_option maxRecDepth 100000 in
theorem comp18:Comp Try.prog 24 ir18 rs18 37:=⟨⟨_,_,38,Try.func24,rfl,by kernel_rfl,by kernel_rfl,rfl⟩⟩
theorem body18:HasBody Try.prog 24:=hasBody_of (by kernel_rfl)
def ir24:IC :=
 .seq (.reg 0 1 [o1 4 (.mv (.k (.bool .false))) 0]) (.seq (.seq (.reg 1 1 [o1 5 (.mv (.k (.int .i64 0))) 1]) (.block 0 (.loop (.seq (.seq (.reg 2 4 [o1 6 (.mv (.t 5)) 2,o1 7 (.mv (.t 0)) 3,o1 8 (.len (.t 7)) 4,o1 9 (.bin .lss (.t 6) (.t 8)) 5]) (.cond (.t 9) .skip (.exit 0))) (.seq (.block 1 (.seq
 (.reg 6 6 [o1 12 (.mv (.t 0)) 6,o1 13 (.mv (.t 5)) 7,o1 14 (.iaddr 1 (.t 12) (.t 13)) 8,o1 15 (.load 1 .false (.t 14)) 9,o1 16 (.mv (.t 1)) 10,o1 17 (.bin .eql (.t 15) (.t 16)) 11]) (.cond (.t 17) (.seq (.reg 12 1 [o1 4 (.mv (.k (.bool .true))) 12]) .ret) .skip)))
 (.reg 13 3 [o1 10 (.mv (.t 5)) 13,o1 11 (.bin .add (.t 10) (.k (.int .i64 1))) 14,o1 5 (.mv (.t 11)) 15])))))) (.seq (.reg 16 1 [o1 4 (.mv (.k (.bool .false))) 16]) .ret))
def rs24:List IRes:=[.tmp 4]
set_option maxRecDepth 100000 in
theorem comp24:Comp Try.prog 26 ir24 rs24 18:=⟨⟨_,_,17,Try.func26,rfl,by kernel_rfl,by kernel_rfl,rfl⟩⟩
theorem body24:HasBody Try.prog 26:=hasBody_of (by kernel_rfl)
def ir27:IC :=
 .seq (.reg 0 1 [o1 6 (.mv (.k (.bool .false))) 0]) (.seq (.reg 1 9 [o1 7 (.mv (.t 0)) 1,o1 8 (.mv (.t 1)) 2,o1 9 (.bin .geq (.t 7) (.t 8)) 3,o1 10 (.mv (.t 9)) 4,
 .mk (.some 11) (.mv (.t 0)) (.some (10, .true)) 5 .none .false [] .false, .mk (.some 12) (.mv (.t 2)) (.some (10, .true)) 6 .none .false [] .false, .mk (.some 13) (.bin .leq (.t
 11) (.t 12)) (.some (10, .true)) 7 .none .false [] .false,o1 14 (.pick (.t 10) (.t 13) (.k (.bool .false))) 8,o1 6 (.mv (.t 14)) 9]) .ret)
def rs27:List IRes:=[.tmp 6]
set_option maxRecDepth 100000 in
theorem comp27:Comp Try.prog 49 ir27 rs27 15:=⟨⟨_,_,10,Try.func49,rfl,by kernel_rfl,by kernel_rfl,rfl⟩⟩
theorem body27:HasBody Try.prog 49:=hasBody_of (by kernel_rfl)
def ir28:IC :=
 .seq (.reg 0 1 [o1 2 (.mv (.k (.bool .false))) 0]) (.seq (.seq (.reg 1 1 [o1 3 (.mv (.k (.int .i64 0))) 1]) (.block 0 (.loop (.seq (.seq (.reg 2 4 [o1 4 (.mv (.t 3)) 2,o1 5 (.mv (.t 0)) 3,o1 6 (.len (.t 5)) 4,o1 7 (.bin .lss (.t 4) (.t 6)) 5]) (.cond (.t 7) .skip (.exit 0))) (.seq (.block 1 (.seq
 (.reg 6 6 [o1 10 (.mv (.t 0)) 6,o1 11 (.mv (.t 3)) 7,o1 12 (.iaddr 1 (.t 10) (.t 11)) 8,o1 13 (.load 1 .false (.t 12)) 9,o1 14 (.lenS (.t 13)) 10,o1 15 (.bin .gtr (.t 14) (.k (.int .i64 40))) 11]) (.cond (.t 15) (.seq (.reg 12 1 [o1 2 (.mv (.k (.bool .false))) 12]) .ret) .skip))) (.reg 13 3 [o1 8 (.mv (.t 3)) 13,o1 9 (.bin .add (.t 8) (.k (.int .i64 1))) 14,o1 3 (.mv (.t 9)) 15])))))) (.seq (.reg 16 4 [o1 16 (.mv (.t 0)) 16,o1 17 (.len (.t 16)) 17,o1 18 (.bin .leq (.t 17) (.k (.int .i64 6))) 18,o1 2 (.mv (.t 18)) 19]) .ret))
def rs28:List IRes:=[.tmp 2]
set_option maxRecDepth 100000 in
theorem comp28:Comp Try.prog 47 ir28 rs28 19:=⟨⟨_,_,20,Try.func47,rfl,by kernel_rfl,by kernel_rfl,rfl⟩⟩
theorem body28:HasBody Try.prog 47:=hasBody_of (by kernel_rfl)
def ir32:IC :=
 .seq (.reg 0 2 [o1 1 (.box 64 (.t 0)) 0,o1 2 (.mv (.k (.bool .false))) 1]) (.seq (.seq (.reg 2 4 [o1 6 (.faddr 0 (.t 1)) 2,o1 7 (.load 1 .false (.t 6)) 3,o1 8 (.len (.t 7)) 4,o1 9 (.bin .gtr (.t 8) (.k (.int .i64 60))) 5]) (.cond (.t 9) (.seq (.reg 6 1 [o1 2 (.mv (.k (.bool .false))) 6]) .ret) .skip)) (.seq (.seq (.reg 7 1 [o1 3 (.mv (.k (.int .i64 0))) 7]) (.block 0 (.loop (.seq (.seq (.reg 8 5 [o1 10 (.mv (.t 3)) 8,o1 11 (.faddr 0 (.t 1)) 9,o1 12 (.load 1 .false (.t 11)) 10,o1 13 (.len (.t 12)) 11,o1 14 (.bin .lss (.t 10) (.t 13)) 12]) (.cond (.t 14) .skip
 (.exit 0))) (.seq (.block 1 (.seq (.reg 13 7 [o1 17 (.faddr 0 (.t 1)) 13,o1 18 (.load 1 .false (.t 17)) 14,o1 19 (.mv (.t 3)) 15,o1 20 (.iaddr 3 (.t 18) (.t 19)) 16,o1 21 (.load 3 .true (.t 20)) 17, .mk (.some 4) (.alloc 71 [.string (ByteArray.mk (Array.mk [])), .int .i64 0, .int .i64 0]) .none 18 .none .false [] .false,o2 (.store 3 (.t 4) (.t 21)) 19]) (.seq (.draw 20 32 [4] [] [o3 22 (.faddr 0 (.t 4)) 20,o3 23 (.load 1 .false (.t 22)) 21,o3 24 (.call 48 [.t 23]) 22, .mk (.some 25) (.un .not (.t 24)) .none 23 (.some [22]) .true
 [] .false, .mk (.some 26) (.mv (.t 25)) .none 24 (.some [22]) .true [] .false, .mk (.some 27) (.faddr 1 (.t 4)) (.some (26, .false)) 25 (.some [22]) .true [] .false, .mk (.some
 28) (.load 1 .false (.t 27)) (.some (26, .false)) 26 (.some [22]) .false [] .false, .mk (.some 29) (.call 49 [.t 28, .k (.int .i64 0), .k (.int .i64 36000)]) (.some (26, .false))
 27 (.some [22]) .false [] .false, .mk (.some 30) (.un .not (.t 29)) (.some (26, .false)) 28 (.some [22,27]) .true [] .false, .mk (.some 31) (.pick (.t 26) (.k (.bool .true)) (.t
 30)) .none 29 (.some [27,22]) .true [] .false, .mk (.some 32) (.mv (.t 31)) .none 30 (.some [22,27]) .true [] .false, .mk (.some 33) (.faddr 2 (.t 4)) (.some (32, .false)) 31
 (.some [27,22]) .true [] .false, .mk (.some 34) (.load 1 .false (.t 33)) (.some (32, .false)) 32 (.some [22,27]) .false [] .false, .mk (.some 35) (.call 49 [.t 34, .k (.int .i64
 0), .k (.int .i64 99)]) (.some (32, .false)) 33 (.some [27,22]) .false [] .false, .mk (.some 36) (.un .not (.t 35)) (.some (32, .false)) 34 (.some [22,27,33]) .true [] .false,
 .mk (.some 37) (.pick (.t 32) (.k (.bool .true)) (.t 36)) .none 35 (.some [33,27,22]) .true [] .false, .mk (.some 38) (.mv (.t 37)) .none 36 (.some [22,27,33]) .true []
 .false, .mk (.some 39) (.mv (.t 3)) (.some (38, .false)) 37 (.some [33,27,22]) .true [] .false, .mk (.some 40) (.bin .gtr (.t 39) (.k (.int .i64 0))) (.some (38, .false)) 38
 (.some [22,27,33]) .true [] .false, .mk (.some 41) (.mv (.t 40)) (.some (38, .false)) 39 (.some [33,27,22]) .true [] .false, .mk (.some 42) (.faddr 1 (.t 4)) (.some (41,
 .true)) 40 (.some [22,27,33]) .true [] .false, .mk (.some 43) (.load 1 .false (.t 42)) (.some (41, .true)) 41 (.some [33,27,22]) .false [] .false, .mk (.some 44) (.faddr 0 (.t
 1)) (.some (41, .true)) 42 (.some [22,27,33]) .true [] .false, .mk (.some 45) (.load 1 .false (.t 44)) (.some (41, .true)) 43 (.some [33,27,22]) .false [] .false, .mk (.some
 46) (.mv (.t 3)) (.some (41, .true)) 44 (.some [22,27,33]) .true [] .false, .mk (.some 47) (.bin .sub (.t 46) (.k (.int .i64 1))) (.some (41, .true)) 45 (.some [33,27,22])
 .true [] .false, .mk (.some 48) (.iaddr 3 (.t 45) (.t 47)) (.some (41, .true)) 46 (.some [22,27,33]) .true [] .false, .mk (.some 49) (.faddr 1 (.t 48)) (.some (41, .true)) 47
 (.some [33,27,22]) .true [] .false, .mk (.some 50) (.load 1 .false (.t 49)) (.some (41, .true)) 48 (.some [22,27,33]) .false [] .false, .mk (.some 51) (.bin .lss (.t 43) (.t
 50)) (.some (41, .true)) 49 (.some [22,27,33]) .true [] .false, .mk (.some 52) (.pick (.t 41) (.t 51) (.k (.bool .false))) (.some (38, .false)) 50 (.some [22,27,33]) .true []
 .false, .mk (.some 53) (.pick (.t 38) (.k (.bool .true)) (.t 52)) .none 51 (.some [33,27,22]) .true [] .false]) (.cond (.t 53) (.seq (.reg 52 1 [o1 2 (.mv (.k (.bool .false))) 52]) .ret) .skip)))) (.reg 53 3 [o1 15 (.mv (.t 3)) 53,o1 16 (.bin .add (.t 15) (.k (.int .i64 1))) 54,o1 3 (.mv (.t 16)) 55])))))) (.seq (.seq (.reg 56 1 [o1 5 (.mv (.k (.int .i64 0))) 56]) (.block 2 (.loop (.seq (.seq (.reg 57 5 [o1 54 (.mv (.t 5)) 57,o1 55 (.faddr 1 (.t 1)) 58,o1 56 (.load 1 .false (.t 55)) 59,o1 57 (.len (.t 56)) 60,o1 58 (.bin .lss (.t 54) (.t 57)) 61]) (.cond (.t 58) .skip (.exit 2))) (.seq (.block 3 (.seq (.draw 62 29 [] [] [o3 61 (.faddr 1 (.t 1)) 62,o3 62 (.load 1 .false (.t 61)) 63,o3 63 (.mv (.t 5)) 64,o3 64 (.iaddr 1 (.t 62) (.t 63)) 65,o3 65 (.load 1 .false (.t 64)) 66,o3 66 (.faddr 0 (.t 1)) 67,o3 67 (.load 1 .false (.t 66)) 68,o3 68 (.len (.t 67)) 69,o3 69 (.bin .sub (.t 68) (.k (.int .i64 1))) 70,o3 70 (.call 49 [.t 65, .k (.int .i64 0), .t 69]) 71, .mk (.some 71) (.un .not (.t 70)) .none 72 (.some [71]) .true [] .false, .mk (.some 72) (.mv (.t 71)) .none 73 (.some [71]) .true [] .false, .mk (.some 73) (.mv (.t 5))
 (.some (72, .false)) 74 (.some [71]) .true [] .false, .mk (.some 74) (.bin .gtr (.t 73) (.k (.int .i64 0))) (.some (72, .false)) 75 (.some [71]) .true [] .false, .mk (.some 75)
 (.mv (.t 74)) (.some (72, .false)) 76 (.some [71]) .true [] .false, .mk (.some 76) (.faddr 1 (.t 1)) (.some (75, .true)) 77 (.some [71]) .true [] .false, .mk (.some 77) (.load 1
 .false (.t 76)) (.some (75, .true)) 78 (.some [71]) .false [] .false, .mk (.some 78) (.mv (.t 5)) (.some (75, .true)) 79 (.some [71]) .true [] .false, .mk (.some 79) (.iaddr 1 (.t
 77) (.t 78)) (.some (75, .true)) 80 (.some [71]) .true [] .false, .mk (.some 80) (.load 1 .false (.t 79)) (.some (75, .true)) 81 (.some [71]) .false [] .false, .mk (.some 81)
 (.faddr 1 (.t 1)) (.some (75, .true)) 82 (.some [71]) .true [] .false, .mk (.some 82) (.load 1 .false (.t 81)) (.some (75, .true)) 83 (.some [71]) .false [] .false, .mk (.some 83)
 (.mv (.t 5)) (.some (75, .true)) 84 (.some [71]) .true [] .false, .mk (.some 84) (.bin .sub (.t 83) (.k (.int .i64 1))) (.some (75, .true)) 85 (.some [71]) .true [] .false, .mk
 (.some 85) (.iaddr 1 (.t 82) (.t 84)) (.some (75, .true)) 86 (.some [71]) .true [] .false, .mk (.some 86) (.load 1 .false (.t 85)) (.some (75, .true)) 87 (.some [71]) .false []
 .false, .mk (.some 87) (.bin .leq (.t 80) (.t 86)) (.some (75, .true)) 88 (.some [71]) .true [] .false, .mk (.some 88) (.pick (.t 75) (.t 87) (.k (.bool .false))) (.some (72,
 .false)) 89 (.some [71]) .true [] .false, .mk (.some 89) (.pick (.t 72) (.k (.bool .true)) (.t 88)) .none 90 (.some [71]) .true [] .false]) (.cond (.t 89) (.seq (.reg 91 1 [o1 2 (.mv (.k (.bool .false))) 91]) .ret) .skip))) (.reg 92 3 [o1 59 (.mv (.t 5)) 92,o1 60 (.bin .add (.t 59) (.k (.int .i64 1))) 93,o1 5 (.mv (.t 60)) 94])))))) (.seq (.reg 95 1 [o1 2 (.mv (.k (.bool .true))) 95]) .ret))))
def rs32:List IRes:=[.tmp 2]
set_option maxRecDepth 100000 in
theorem comp32:Comp Try.prog 18 ir32 rs32 90:=⟨⟨_,_,96,Try.func18,rfl,by kernel_rfl,by kernel_rfl,rfl⟩⟩
theorem body32:HasBody Try.prog 18:=hasBody_of (by kernel_rfl)
def ir46:IC :=
 .seq (.reg 0 1 [o1 2 (.mv (.k (.slice .none 0 0))) 0]) (.seq (.reg 1 3 [o1 3 (.mv (.t 0)) 1,o1 4 (.app 9 1 16 (.k (.slice .none 0 0)) (.t 3)) 2,o1 2 (.mv (.t 4)) 3]) .ret)
def rs46:List IRes:=[.tmp 2]
set_option maxRecDepth 100000 in
theorem comp46:Comp Try.prog 53 ir46 rs46 5:=⟨⟨_,_,4,Try.func53,rfl,by kernel_rfl,by kernel_rfl,rfl⟩⟩
theorem body46:HasBody Try.prog 53:=hasBody_of (by kernel_rfl)
def ir54:IC :=
 .seq (.reg 0 1 [o1 2 (.mv (.k (.bool .false))) 0]) (.seq (.seq (.reg 1 1 [o1 3 (.mv (.k (.int .i64 0))) 1]) (.block 0 (.loop (.seq (.seq (.reg 2 4 [o1 4 (.mv (.t 3)) 2,o1 5 (.mv (.t 0)) 3,o1 6 (.lenS (.t 5)) 4,o1 7 (.bin .lss (.t 4) (.t 6)) 5]) (.cond (.t 7) .skip (.exit 0))) (.seq (.block 1 (.seq
 (.reg 6 10 [o1 10 (.mv (.t 0)) 6,o1 11 (.mv (.t 3)) 7,o1 12 (.pur (.idx 9) [.t 10, .t 11]) 8,o1 13 (.bin .lss (.t 12) (.k (.int .u8 33))) 9,o1 14 (.mv (.t 13)) 10,
 .mk (.some 15) (.mv (.t 0)) (.some (14, .false)) 11 .none .false [] .false, .mk (.some 16) (.mv (.t 3)) (.some (14, .false)) 12 .none .false [] .false, .mk (.some 17) (.pur (.idx
 9) [.t 15, .t 16]) (.some (14, .false)) 13 .none .false [] .false, .mk (.some 18) (.bin .gtr (.t 17) (.k (.int .u8 126))) (.some (14, .false)) 14 .none .false [] .false,o1 19 (.pick (.t 14) (.k (.bool .true)) (.t 18)) 15]) (.cond (.t 19) (.seq (.reg 16 1 [o1 2 (.mv (.k (.bool .false))) 16]) .ret) .skip))) (.reg 17 3 [o1 8 (.mv (.t 3)) 17,o1 9 (.bin .add (.t 8) (.k (.int .i64 1))) 18,o1 3 (.mv (.t 9)) 19])))))) (.seq (.reg 20 4 [o1 20 (.mv (.t 0)) 20,o1 21 (.lenS (.t 20)) 21,o1 22 (.call 49 [.t 21, .k (.int .i64 1), .k (.int .i64 32)]) 22,o1 2 (.mv (.t 22)) 23]) .ret))
def rs54:List IRes:=[.tmp 2]
set_option maxRecDepth 100000 in
theorem comp54:Comp Try.prog 48 ir54 rs54 23:=⟨⟨_,_,24,Try.func48,rfl,by kernel_rfl,by kernel_rfl,rfl⟩⟩
theorem body54:HasBody Try.prog 48:=hasBody_of (by kernel_rfl)
end Go.Proofs.Ytefnikpoimaiiaa

namespace Go.Proofs.Ytefnikpoimaiiaa
open Go.Pal
def irQ4:IC :=
 .seq (.reg 0 2 [o1 3 (.box 64 (.t 0)) 0,o1 6 (.mv (.k (.bool .false))) 1]) (.seq (.seq (.reg 2 20 [o1 23 (.load 2 .true (.t 3)) 2,o1 24 (.mv (.t 1)) 3,o1 25 (.call 17 [.t 23, .t 24]) 4,o1 26 (.un .not (.t 25)) 5,o1 27 (.mv (.t 26)) 6, .mk (.some 28) (.load 2
 .true (.t 3)) (.some (27, .false)) 7 .none .false [] .false, .mk (.some 29) (.call 18 [.t 28]) (.some (27, .false)) 8 .none .false [] .false, .mk (.some 30) (.un .not (.t 29))
 (.some (27, .false)) 9 .none .false [] .false,o1 31 (.pick (.t 27) (.k (.bool .true)) (.t 30)) 10,o1 32 (.mv (.t 31)) 11, .mk (.some 33) (.mv (.t 1)) (.some (32, .false)) 12 .none .false [] .false, .mk (.some 34) (.len (.t 33)) (.some (32, .false)) 13 .none .false [] .false,
 .mk (.some 35) (.bin .gtr (.t 34) (.k (.int .i64 80))) (.some (32, .false)) 14 .none .false [] .false,o1 36 (.pick (.t 32) (.k (.bool .true)) (.t 35)) 15,o1 37 (.mv (.t 36)) 16, .mk (.some 38) (.faddr 0 (.t 3)) (.some (37, .false)) 17 .none .false [] .false, .mk (.some 39)
 (.load 1 .false (.t 38)) (.some (37, .false)) 18 .none .false [] .false, .mk (.some 40) (.len (.t 39)) (.some (37, .false)) 19 .none .false [] .false, .mk (.some 41) (.bin .eql
 (.t 40) (.k (.int .i64 0))) (.some (37, .false)) 20 .none .false [] .false,o1 42 (.pick (.t 37) (.k (.bool .true)) (.t 41)) 21]) (.cond (.t
 42) (.seq (.reg 22 2 [o1 43 (.call 19 []) 22,o1 6 (.mv (.t 43)) 23]) .ret) .skip)) (.seq (.reg 24 3
 [o1 7 (.mv (.k (.slice .none 0 0))) 24,o1 8 (.mv (.k (.slice .none 0 0))) 25,o1 9 (.mv (.k (.slice .none 0 0))) 26]) (.seq (.seq (.reg 27 1 [o1 10 (.mv (.k (.int .i64 0))) 27]) (.block 0 (.loop (.seq
 (.seq (.reg 28 5 [o1 44 (.mv (.t 10)) 28,o1 45 (.faddr 0 (.t 3)) 29,o1 46 (.load 1 .false (.t 45)) 30,o1 47 (.len (.t 46)) 31,o1 48 (.bin .lss (.t 44) (.t 47)) 32]) (.cond (.t 48) .skip (.exit 0))) (.seq (.block 1 (.seq (.seq (.reg 33 16 [o1 51 (.faddr 0 (.t 3)) 33,o1 52 (.load 1 .false (.t 51)) 34,o1 53 (.mv (.t 10)) 35,o1 54 (.iaddr 3 (.t 52) (.t 53)) 36,
 o1 55 (.faddr 0 (.t 54)) 37,o1 56 (.load 1 .false (.t 55)) 38,o1 57 (.call 20 [.t 56]) 39,o1 58 (.mv (.t 57)) 40, .mk (.some 59) (.faddr 0 (.t 3)) (.some (58, .false)) 41 .none .false [] .false, .mk
 (.some 60) (.load 1 .false (.t 59)) (.some (58, .false)) 42 .none .false [] .false, .mk (.some 61) (.mv (.t 10)) (.some (58, .false)) 43 .none .false [] .false, .mk (.some 62)
 (.iaddr 3 (.t 60) (.t 61)) (.some (58, .false)) 44 .none .false [] .false, .mk (.some 63) (.faddr 0 (.t 62)) (.some (58, .false)) 45 .none .false [] .false, .mk (.some 64) (.load
 1 .false (.t 63)) (.some (58, .false)) 46 .none .false [] .false, .mk (.some 65) (.call 21 [.t 64]) (.some (58, .false)) 47 .none .false [] .false,o1 66 (.pick (.t 58) (.k (.bool .true)) (.t 65)) 48]) (.cond (.t 66) (.seq (.reg 49 2 [o1 67 (.call 19 []) 49,o1 6 (.mv (.t 67)) 50]) .ret) .skip)) (.reg 51 10 [o1 68 (.mv (.t 7)) 51,o1 69 (.faddr 0 (.t 3)) 52,o1 70 (.load 1 .false (.t 69)) 53,o1 71 (.mv (.t 10)) 54,o1 72 (.iaddr 3 (.t 70) (.t 71)) 55,o1 73 (.faddr 0 (.t 72)) 56,o1 74 (.load 1 .false (.t 73)) 57, .mk (.some 75) (.bsl 9 1 1 [.string (ByteArray.mk (Array.mk []))] [(0, .t 74)]) .none 58 .none .false [] .false,o1 76 (.app 9 1 16 (.t 68) (.t 75)) 59,o1 7 (.mv (.t 76)) 60]))) (.reg 61 3 [o1 49 (.mv (.t 10)) 61,o1 50 (.bin .add (.t 49) (.k (.int .i64 1))) 62,o1 10 (.mv (.t 50)) 63])))))) (.seq (.reg 64 1 [o1 11 (.mv (.k (.slice .none 0 0))) 64]) (.seq (.seq (.reg 65 1 [o1 12 (.mv (.k (.int .i64 0))) 65]) (.block 2 (.loop (.seq
 (.seq (.reg 66 4 [o1 77 (.mv (.t 12)) 66,o1 78 (.mv (.t 1)) 67,o1 79 (.len (.t 78)) 68,o1 80 (.bin .lss (.t 77) (.t 79)) 69]) (.cond (.t 80) .skip (.exit 2))) (.seq (.block 3 (.seq (.reg 70 6 [o1 83 (.mv (.t 1)) 70,o1 84 (.mv (.t 12)) 71,o1 85 (.iaddr 4 (.t 83) (.t 84)) 72,o1 86 (.load 4 .true (.t 85)) 73,o1 13 (.alloc 73 [.int .i64 0, .int .i64 0, .int .i64 0, .slice .none 0 0]) 74,o2 (.store 4 (.t 13) (.t 86)) 75]) (.seq (.reg 76 8 [o1 87 (.faddr 0 (.t 13)) 76,o1 88 (.load 1 .false (.t 87)) 77,o1 89 (.bin .neq (.t 88) (.k (.int .i64 0))) 78,o1 90 (.mv (.t 89)) 79, .mk (.some 91) (.faddr 2 (.t 13)) (.some (90, .false)) 80 .none .false [] .false, .mk (.some 92) (.load 1 .false (.t 91)) (.some (90,
 .false)) 81 .none .false [] .false, .mk (.some 93) (.bin .gtr (.t 92) (.k (.int .i64 0))) (.some (90, .false)) 82 .none .false [] .false,o1 94 (.pick (.t 90) (.k (.bool .true)) (.t 93)) 83]) (.cond (.t 94) (.seq (.reg 84 2 [o1 95 (.faddr 3 (.t 13)) 84,o2 (.store 1 (.t 95) (.k (.slice .none 0 0))) 85]) (.reg 86 5 [o1 96 (.mv (.t 11)) 86,o1 97 (.load 4 .true (.t 13)) 87,o1 98 (.bsl 73 4 1 [.int .i64 0, .int .i64 0, .int .i64 0, .slice .none 0 0] [(0, .t 97)]) 88,o1 99 (.app 73 4 48 (.t 96) (.t 98)) 89,o1 11 (.mv (.t 99)) 90])) .skip)))) (.reg 91 3 [o1 81 (.mv (.t 12)) 91,o1 82 (.bin .add (.t 81) (.k (.int .i64 1))) 92,o1 12 (.mv (.t 82)) 93])))))) (.seq (.reg 94 14 [o1 101 (.load 2 .true (.t 3)) 94,o1 102 (.call 23 [.t 101]) 95,o1 103 (.mv (.t 11)) 96,o1 104 (.call 24 [.t 103]) 97,o1 105 (.call 22 [.t 102, .t 104]) 98,o1 100 (.mv (.t 105)) 99,o1 106 (.ext (.t 100) 0) 100,o1 107 (.ext (.t 100) 1) 101,o1 108 (.ext (.t 100) 2) 102,o1 109 (.ext (.t 100) 3) 103,o1 14 (.mv (.t 106)) 104,o1 15 (.mv (.t 107)) 105,o1 16 (.mv (.t 108)) 106,o1 17 (.mv (.t 109)) 107]) (.seq (.seq (.reg 108 2 [o1 110 (.mv (.t 17)) 108,
 o1 111 (.bin .neq (.t 110) (.k (.int .i64 0))) 109]) (.cond (.t 111) (.seq (.reg 110 6 [o1 112 (.mv (.t 17)) 110,o1 113 (.bin .eql (.t 112) (.k (.int .i64 9))) 111,o1 114 (.mv (.t 113)) 112, .mk (.some
 115) (.call 19 []) (.some (114, .true)) 113 .none .false [] .false,o1 116 (.pick (.t 114) (.t 115) (.k (.bool .false))) 114,o1 6 (.mv (.t 116)) 115]) .ret) .skip)) (.seq (.reg 116 1 [o1 18 (.mv (.k (.slice .none 0 0))) 116]) (.seq (.reg 117
 1 [o1 19 (.mv (.k (.int .i64 (-1)))) 117]) (.seq (.seq (.reg 118 1 [o1 20 (.mv (.k (.int .i64 0))) 118]) (.block 4 (.loop (.seq (.seq (.reg 119 4 [o1 117 (.mv (.t 20)) 119,o1 118 (.mv (.t 14)) 120,
 o1 119 (.len (.t 118)) 121,o1 120 (.bin .lss (.t 117) (.t 119)) 122]) (.cond (.t 120) .skip (.exit
 4))) (.seq (.block 5 (.seq (.seq (.reg 123 17 [o1 123 (.mv (.t 14)) 123,o1 124 (.mv (.t 20)) 124,o1 125 (.iaddr 3 (.t 123) (.t 124)) 125,o1 126 (.faddr 1 (.t 125)) 126,o1 127 (.load 1 .false (.t 126)) 127,o1 128 (.mv (.t 19)) 128,o1 129 (.bin .leq (.t 127) (.t 128)) 129,o1 130 (.mv (.t 129)) 130, .mk (.some 131) (.mv (.t 14)) (.some (130, .false)) 131 .none .false [] .false, .mk (.some 132) (.mv (.t
 20)) (.some (130, .false)) 132 .none .false [] .false, .mk (.some 133) (.iaddr 3 (.t 131) (.t 132)) (.some (130, .false)) 133 .none .false [] .false, .mk (.some 134) (.faddr 1 (.t
 133)) (.some (130, .false)) 134 .none .false [] .false, .mk (.some 135) (.load 1 .false (.t 134)) (.some (130, .false)) 135 .none .false [] .false, .mk (.some 136) (.mv (.t 7))
 (.some (130, .false)) 136 .none .false [] .false, .mk (.some 137) (.len (.t 136)) (.some (130, .false)) 137 .none .false [] .false, .mk (.some 138) (.bin .geq (.t 135) (.t 137))
 (.some (130, .false)) 138 .none .false [] .false,o1 139 (.pick (.t 130) (.k (.bool .true)) (.t 138)) 139]) (.cond (.t 139) (.seq (.reg 140 1
 [o1 6 (.mv (.k (.bool .false))) 140]) .ret) .skip)) (.seq (.seq (.reg 141 12 [o1 140 (.mv (.t 14)) 141,
 o1 141 (.mv (.t 20)) 142,o1 142 (.iaddr 3 (.t 140) (.t 141)) 143,o1 143 (.faddr 1 (.t 142)) 144,o1 144 (.load 1 .false (.t 143)) 145,o1 145 (.mv (.t 19)) 146,o1 146 (.bin .add (.t 145) (.k (.int .i64 1))) 147,o1 147 (.bin .gtr (.t 144) (.t 146)) 148,o1 148 (.mv (.t 147)) 149, .mk (.some 149) (.mv (.t 20)) (.some (148, .true)) 150 .none .false [] .false, .mk (.some 150) (.bin .gtr (.t 149) (.k (.int
 .i64 0))) (.some (148, .true)) 151 .none .false [] .false,o1 151 (.pick (.t 148) (.t 150) (.k (.bool .false))) 152]) (.cond (.t 151) (.reg
 153 4 [o1 152 (.mv (.t 8)) 153, .mk (.some 153) (.bsl 9 1 1 [.string (ByteArray.mk (Array.mk []))] [(0, .k (.string (ByteArray.mk (Array.mk
 [46,46,46]))))]) .none 154 .none .false [] .false,o1 154 (.app 9 1 16 (.t 152) (.t 153)) 155,o1 8 (.mv (.t 154)) 156]) .skip)) (.seq (.reg 157 6 [o1 155 (.mv (.t 14)) 157,o1 156 (.mv (.t 20)) 158,o1 157 (.iaddr 3 (.t 155) (.t 156)) 159,o1 158 (.faddr 1 (.t 157)) 160,o1 159 (.load 1 .false (.t 158)) 161,o1 19 (.mv (.t 159)) 162]) (.reg 163 14 [o1 160 (.mv (.t 8)) 163,o1 161 (.mv (.t 14)) 164,o1 162 (.mv (.t 20)) 165,o1 163 (.iaddr 3 (.t 161) (.t 162)) 166,o1 164 (.faddr 0 (.t 163)) 167,o1 165 (.load 1 .false (.t 164)) 168, .mk (.some 166) (.bsl 9 1 1 [.string (ByteArray.mk (Array.mk []))] [(0, .t 165)]) .none 169 .none .false [] .false,o1 167 (.app 9 1 16 (.t 160) (.t 166)) 170,o1 168 (.mv (.t 18)) 171,o1 169 (.mv (.t 19)) 172,o1 170 (.bsl 3 1 1 [.int .i64 0] [(0, .t 169)]) 173,o1 171 (.app 3 1 8 (.t 168) (.t 170)) 174,o1 8 (.mv (.t 167)) 175,o1 18 (.mv (.t 171)) 176]))))) (.reg 177 3 [o1 121 (.mv (.t 20)) 177,
 o1 122 (.bin .add (.t 121) (.k (.int .i64 1))) 178,o1 20 (.mv (.t 122)) 179])))))) (.seq (.seq (.reg
 180 8 [o1 172 (.mv (.t 8)) 180,o1 173 (.len (.t 172)) 181,o1 174 (.bin .eql (.t 173) (.k (.int .i64 0))) 182,o1 175 (.mv (.t 174)) 183, .mk (.some 176) (.mv (.t 8)) (.some (175, .false)) 184 .none
 .false [] .false, .mk (.some 177) (.len (.t 176)) (.some (175, .false)) 185 .none .false [] .false, .mk (.some 178) (.bin .gtr (.t 177) (.k (.int .i64 80))) (.some (175, .false))
 186 .none .false [] .false,o1 179 (.pick (.t 175) (.k (.bool .true)) (.t 178)) 187]) (.cond (.t 179) (.seq (.reg 188 2 [o1 180 (.call 19 []) 188,o1 6 (.mv (.t 180)) 189]) .ret) .skip)) (.seq (.seq (.reg 190 8 [o1 181 (.mv (.t 7)) 190,o1 182 (.app 9 1 16 (.k (.slice .none 0 0)) (.t 181)) 191,o1 183 (.mv (.t 8)) 192,o1 184 (.app 9 1 16 (.k (.slice .none 0 0)) (.t 183)) 193,o1 185 (.mv (.t 18)) 194,
 o1 186 (.app 3 1 8 (.k (.slice .none 0 0)) (.t 185)) 195,o1 187 (.call 25 [.t 182, .t 184, .k (.slice .none 0 0), .t 186]) 196,o1 188 (.un .not (.t 187)) 197]) (.cond (.t 188) (.seq (.reg 198 1 [o1 6 (.mv (.k (.bool .false))) 198]) .ret) .skip)) (.seq (.reg 199 9 [o1 189 (.mv (.t 7)) 199,o1 190 (.mv (.t 2)) 200,o1 191 (.conv .i64 (.t 190)) 201,o1 192 (.mv (.t 7)) 202,o1 193 (.len (.t 192)) 203,o1 194 (.bin .rem (.t 191) (.t 193)) 204,o1 195 (.iaddr 1 (.t 189) (.t 194)) 205,o1 196 (.load 1 .false (.t 195)) 206,o1 21 (.mv (.t 196)) 207]) (.seq (.seq (.reg
 208 1 [o1 22 (.mv (.k (.int .i64 0))) 208]) (.block 6 (.loop (.seq (.seq (.reg 209 4 [o1 197 (.mv (.t 22)) 209,o1 198 (.mv (.t 7)) 210,o1 199 (.len (.t 198)) 211,o1 200 (.bin .lss (.t 197) (.t 199)) 212]) (.cond (.t 200) .skip (.exit 6))) (.seq (.block 7 (.seq (.reg 213 13 [o1 203 (.mv (.t 7)) 213,o1 204 (.mv (.t 22)) 214,o1 205 (.iaddr 1 (.t 203) (.t 204)) 215,o1 206 (.load 1 .false (.t 205)) 216,o1 207 (.mv (.t 21)) 217,o1 208 (.pur (.bin .eql 9) [.t 206, .t 207]) 218,o1 209 (.mv (.t 208)) 219, .mk (.some 210) (.faddr 1 (.t 3)) (.some (209, .true)) 220 .none .false [] .false, .mk (.some
 211) (.load 1 .false (.t 210)) (.some (209, .true)) 221 .none .false [] .false, .mk (.some 212) (.mv (.t 22)) (.some (209, .true)) 222 .none .false [] .false, .mk (.some 213)
 (.call 26 [.t 211, .t 212]) (.some (209, .true)) 223 .none .false [] .false, .mk (.some 214) (.un .not (.t 213)) (.some (209, .true)) 224 .none .false [] .false,o1 215 (.pick (.t 209) (.t 214) (.k (.bool .false))) 225]) (.cond (.t 215) (.seq (.reg 226 2 [o1 216 (.call 19 []) 226,
 o1 6 (.mv (.t 216)) 227]) .ret) .skip))) (.reg 228 3 [o1 201 (.mv (.t 22)) 228,o1 202 (.bin .add (.t 201) (.k (.int .i64 1))) 229,o1 22 (.mv (.t 202)) 230])))))) (.seq (.reg 231 5 [o1 217 (.mv (.t 9)) 231,o1 218 (.mv (.t 21)) 232, .mk (.some 219) (.bsl 9 1 1 [.string (ByteArray.mk (Array.mk []))] [(0,
 .t 218)]) .none 233 .none .false [] .false,o1 220 (.app 9 1 16 (.t 217) (.t 219)) 234,o1 9 (.mv (.t 220)) 235]) (.seq (.reg 236 9 [o1 221 (.mv (.t 7)) 236,o1 222 (.mv (.t 8)) 237,o1 223 (.mv (.t 9)) 238,o1 224 (.mv (.t 18)) 239,o1 225 (.call 25 [.t 221, .t 222, .t 223, .t 224]) 240,o1 226 (.mv (.t 225)) 241, .mk (.some 227) (.call 19 []) (.some (226, .true)) 242 .none .false [] .false,o1 228 (.pick (.t 226) (.t 227) (.k (.bool .false))) 243,o1 6 (.mv (.t 228)) 244]) .ret))))))))))))))))
def rsQ4:List IRes:=[.tmp 6]
set_option maxRecDepth 100000 in
theorem compQ4:Comp Try.prog 4 irQ4 rsQ4 229:=⟨⟨_,_,245,Try.func4,rfl,by kernel_rfl,by kernel_rfl,rfl⟩⟩
def irQ19:IC :=
 .seq (.reg 0 1 [o1 0 (.mv (.k (.bool .false))) 0]) (.seq (.reg 1 8 [.mk (.some 4) (.bsl 9 1 3 [.string (ByteArray.mk (Array.mk [])), .string
 (ByteArray.mk (Array.mk [])), .string (ByteArray.mk (Array.mk []))] [(0, .k (.string (ByteArray.mk (Array.mk [97])))),(1, .k (.string (ByteArray.mk (Array.mk [98])))),(2, .k
 (.string (ByteArray.mk (Array.mk [99]))))]) .none 1 .none .false [] .false, .mk (.some 5) (.bsl 9 1 3 [.string (ByteArray.mk (Array.mk [])), .string (ByteArray.mk (Array.mk [])),
 .string (ByteArray.mk (Array.mk []))] [(0, .k (.string (ByteArray.mk (Array.mk [97])))),(1, .k (.string (ByteArray.mk (Array.mk [46,46,46])))),(2, .k (.string (ByteArray.mk
 (Array.mk [99]))))]) .none 2 .none .false [] .false,o1 6 (.call 50 [.t 4, .t 5, .k (.slice .none 0 0)]) 3,o1 3 (.mv (.t 6)) 4,o1 7 (.ext (.t 3) 0) 5,o1 8 (.ext (.t 3) 1) 6,o1 1 (.mv (.t 7)) 7,o1 2 (.mv (.t 8)) 8]) (.seq (.reg 9 20 [o1 9 (.mv (.t 2)) 9,o1 10 (.bin .eql (.t 9) (.k (.int .i64 0))) 10,o1 11 (.mv (.t 10)) 11, .mk (.some 12) (.mv (.t 1)) (.some (11,
 .true)) 12 .none .false [] .false, .mk (.some 13) (.len (.t 12)) (.some (11, .true)) 13 .none .false [] .false, .mk (.some 14) (.bin .eql (.t 13) (.k (.int .i64 2))) (.some (11,
 .true)) 14 .none .false [] .false,o1 15 (.pick (.t 11) (.t 14) (.k (.bool .false))) 15,o1 16 (.mv (.t 15)) 16, .mk (.some 17) (.mv (.t 1)) (.some (16, .true)) 17 .none .false [] .false, .mk (.some 18) (.iaddr 1 (.t 17) (.k (.int .i64 0))) (.some (16, .true)) 18 .none .false []
 .false, .mk (.some 19) (.load 1 .false (.t 18)) (.some (16, .true)) 19 .none .false [] .false, .mk (.some 20) (.bin .eql (.t 19) (.k (.int .i64 0))) (.some (16, .true)) 20 .none
 .false [] .false,o1 21 (.pick (.t 16) (.t 20) (.k (.bool .false))) 21,o1 22 (.mv (.t 21)) 22, .mk
 (.some 23) (.mv (.t 1)) (.some (22, .true)) 23 .none .false [] .false, .mk (.some 24) (.iaddr 1 (.t 23) (.k (.int .i64 1))) (.some (22, .true)) 24 .none .false [] .false, .mk
 (.some 25) (.load 1 .false (.t 24)) (.some (22, .true)) 25 .none .false [] .false, .mk (.some 26) (.bin .eql (.t 25) (.k (.int .i64 2))) (.some (22, .true)) 26 .none .false []
 .false,o1 27 (.pick (.t 22) (.t 26) (.k (.bool .false))) 27,o1 0 (.mv (.t 27)) 28]) .ret))
def rsQ19:List IRes:=[.tmp 0]
set_option maxRecDepth 100000 in
theorem compQ19:Comp Try.prog 19 irQ19 rsQ19 28:=⟨⟨_,_,29,Try.func19,rfl,by kernel_rfl,by kernel_rfl,rfl⟩⟩
theorem bodyQ19:HasBody Try.prog 19:=hasBody_of (by kernel_rfl)

def irQ20:IC :=
 .seq (.reg 0 1 [o1 2 (.mv (.k (.bool .false))) 0]) (.seq (.reg 1 3 [o1 3 (.mv (.t 0)) 1, .mk (.some 4)
 (.pur (.bin .eql 9) [.t 3, .k (.string (ByteArray.mk (Array.mk [46,46,46])))]) .none 2 .none .false [] .false,o1 2 (.mv (.t 4)) 3]) .ret)
def rsQ20:List IRes:=[.tmp 2]
set_option maxRecDepth 100000 in
theorem compQ20:Comp Try.prog 20 irQ20 rsQ20 5:=⟨⟨_,_,4,Try.func20,rfl,by kernel_rfl,by kernel_rfl,rfl⟩⟩
theorem bodyQ20:HasBody Try.prog 20:=hasBody_of (by kernel_rfl)

def irQ21:IC :=
 .seq (.reg 0 1 [o1 2 (.mv (.k (.bool .false))) 0]) (.seq (.reg 1 17 [o1 3 (.mv (.t 0)) 1,o1 4 (.lenS (.t 3)) 2,o1 5 (.bin .geq (.t 4) (.k (.int .i64 3))) 3,o1 6 (.mv (.t 5)) 4, .mk (.some 7) (.mv (.t 0)) (.some (6, .true)) 5 .none .false [] .false, .mk (.some 8) (.pur (.idx 9) [.t 7, .k (.int .i64 0)]) (.some (6, .true)) 6 .none .false []
 .false, .mk (.some 9) (.bin .eql (.t 8) (.k (.int .u8 91))) (.some (6, .true)) 7 .none .false [] .false,o1 10 (.pick (.t 6) (.t 9) (.k (.bool .false))) 8,o1 11 (.mv (.t 10)) 9, .mk (.some 12) (.mv (.t 0)) (.some (11, .true)) 10 .none .false [] .false, .mk (.some 13) (.mv (.t
 0)) (.some (11, .true)) 11 .none .false [] .false, .mk (.some 14) (.lenS (.t 13)) (.some (11, .true)) 12 .none .false [] .false, .mk (.some 15) (.bin .sub (.t 14) (.k (.int .i64
 1))) (.some (11, .true)) 13 .none .false [] .false, .mk (.some 16) (.pur (.idx 9) [.t 12, .t 15]) (.some (11, .true)) 14 .none .false [] .false, .mk (.some 17) (.bin .eql (.t 16)
 (.k (.int .u8 93))) (.some (11, .true)) 15 .none .false [] .false,o1 18 (.pick (.t 11) (.t 17) (.k (.bool .false))) 16,o1 2 (.mv (.t 18)) 17]) .ret)
def rsQ21:List IRes:=[.tmp 2]
set_option maxRecDepth 100000 in
theorem compQ21:Comp Try.prog 21 irQ21 rsQ21 19:=⟨⟨_,_,18,Try.func21,rfl,by kernel_rfl,by kernel_rfl,rfl⟩⟩
theorem bodyQ21:HasBody Try.prog 21:=hasBody_of (by kernel_rfl)

def irQ25:IC :=
 .seq (.reg 1000 1 [o1 8 (.mv (.k (.bool .false))) 1000]) (.seq (.reg 1001 9 [o1 15 (.mv (.t 0)) 1001,o1 16 (.mv (.t 1)) 1002,o1 17 (.mv (.t 2)) 1003,o1 18 (.call 54 [.t 15, .t 16, .t 17]) 1004,o1 14 (.mv (.t 18)) 1005,o1 19 (.ext (.t 14) 0) 1006,o1 20 (.ext (.t 14) 1) 1007,o1 9 (.mv (.t 19)) 1008,o1 10 (.mv (.t 20)) 1009])
 (.seq (.seq (.reg 1010 12 [o1 21 (.mv (.t 10)) 1010,o1 22 (.un .not (.t 21)) 1011,o1 23 (.mv (.t 22)) 1012, .mk (.some 24) (.mv (.t 3)) (.some (23, .false)) 1013 .none .false [] .false, .mk (.some 25) (.len (.t 24)) (.some (23, .false)) 1014
 .none .false [] .false, .mk (.some 26) (.mv (.t 9)) (.some (23, .false)) 1015 .none .false [] .false, .mk (.some 27) (.nilc (.t 26)) (.some (23, .false)) 1016 .none .false []
 .false, .mk (.some 28) (.faddr 2 (.t 27)) (.some (23, .false)) 1017 .none .false [] .false, .mk (.some 29) (.load 1 .false (.t 28)) (.some (23, .false)) 1018 .none .false []
 .false, .mk (.some 30) (.len (.t 29)) (.some (23, .false)) 1019 .none .false [] .false, .mk (.some 31) (.bin .neq (.t 25) (.t 30)) (.some (23, .false)) 1020 .none .false []
 .false,o1 32 (.pick (.t 23) (.k (.bool .true)) (.t 31)) 1021]) (.cond (.t 32) (.seq (.reg 1022 1 [o1 8 (.mv (.k (.bool .false))) 1022]) .ret) .skip)) (.seq (.reg 1023 1 [o1 11 (.mv (.k (.int .i64 (-1)))) 1023]) (.seq (.seq (.reg 1024 3 [o1 33 (.mv (.t 3)) 1024,o1 34 (.len (.t 33)) 1025,o1 35 (.mv (.k (.int .i64 0))) 1026]) (.block 0 (.loop (.seq (.reg 1027 1 [o1 36 (.bin .lss (.t 35) (.t 34)) 1027]) (.seq (.cond (.t 36) .skip (.exit 0))
 (.seq (.block 1 (.seq (.reg 1028 5 [o1 37 (.mv (.t 35)) 1028,o1 38 (.iaddr 1 (.t 33) (.t 35)) 1029,
 o1 39 (.load 1 .false (.t 38)) 1030,o1 12 (.mv (.t 37)) 1031,o1 13 (.mv (.t 39)) 1032]) (.seq (.seq (.reg 1033 6 [o1 40 (.mv (.t 9)) 1033,o1 41 (.mv (.t 12)) 1034,
 o1 42 (.mv (.t 11)) 1035,o1 43 (.mv (.t 13)) 1036,o1 44 (.call 55 [.t 40, .t 41, .t 42, .t 43]) 1037,o1 45 (.un .not (.t 44)) 1038]) (.cond (.t 45) (.seq (.reg 1039 1 [o1 8 (.mv (.k (.bool .false))) 1039]) .ret) .skip)) (.reg 1040 2 [o1 46 (.mv (.t 13)) 1040,o1 11 (.mv (.t 46)) 1041])))) (.reg 1042 2 [o1 47 (.bin .add (.t 35) (.k (.int .i64 1))) 1042,o1 35 (.mv (.t 47)) 1043]))))))) (.seq (.reg 1044 1 [o1 8 (.mv (.k (.bool .true))) 1044]) .ret)))))
def rsQ25:List IRes:=[.tmp 8]
set_option maxRecDepth 100000 in
theorem compQ25:CompAt Try.prog 25 1000 irQ25 rsQ25 48:=⟨⟨_,_,1045,Try.func25,rfl,by kernel_rfl,by kernel_rfl,rfl⟩⟩
theorem bodyQ25:HasBody Try.prog 25:=hasBody_of (by kernel_rfl)

def irQ50:IC :=
 .seq (.reg 1000 3 [o1 3 (.box 68 (.t 0)) 1000,o1 6 (.mv (.k (.slice .none 0 0))) 1001,o1 7 (.mv (.k (.int .i64 0))) 1002]) (.seq (.reg 1003 10 [o1 14 (.load 1 .false (.t 3)) 1003,o1 15 (.mv (.t 1)) 1004,o1 16 (.mv (.t 2)) 1005,o1 17 (.call 54 [.t 14, .t 15, .t 16]) 1006,o1 13 (.mv (.t 17)) 1007,o1 18 (.ext (.t 13) 0) 1008,o1 19 (.ext (.t 13) 1) 1009,o1 8 (.alloc 155 [.pointer .none]) 1010,o2 (.store 1 (.t 8) (.t 18)) 1011,
 o1 9 (.mv (.t 19)) 1012]) (.seq (.seq (.reg 1013 2 [o1 20 (.mv (.t 9)) 1013,o1 21 (.un .not (.t 20)) 1014]) (.cond (.t 21) (.seq (.reg 1015 2 [o1 6 (.mv (.k (.slice .none 0 0))) 1015,o1 7 (.mv (.k (.int .i64 1))) 1016]) .ret) .skip)) (.seq (.reg 1017 3 [o1 22 .mkm 1017,o1 10 (.alloc 193 [.map .none]) 1018,o2 (.store 1 (.t 10) (.t 22)) 1019]) (.seq (.reg 1020 1 [o1 11 (.alloc 62 [.slice .none 0 0]) 1020]) (.seq (.reg 1021 1 [o1 12 (.alloc 194 [.nilFunc]) 1021]) (.seq (.reg 1022 2 [o1 23 (.mkf 74 [] [.t 8, .t 10, .t 3, .t 11, .t 12]) 1022,o2 (.store 1 (.t 12) (.t 23)) 1023]) (.seq (.seq (.reg 1024 3 [o1 24 (.load 1 .false (.t 12)) 1024,o1 25 (.callv (.t 24) [.k (.int .i64 0), .k (.int .i64 (-1))]) 1025,
 o1 26 (.un .not (.t 25)) 1026]) (.cond (.t 26) (.seq (.reg 1027 2 [o1 6 (.mv (.k (.slice .none 0 0))) 1027,o1 7 (.mv (.k (.int .i64 7))) 1028]) .ret) .skip)) (.seq (.reg 1029 3 [o1 27 (.load 1 .false (.t 11)) 1029,o1 6 (.mv (.t 27)) 1030,o1 7 (.mv (.k (.int .i64 0))) 1031]) .ret))))))))
def rsQ50:List IRes:=[.tmp 6, .tmp 7]
set_option maxRecDepth 100000 in
theorem compQ50:CompAt Try.prog 50 1000 irQ50 rsQ50 28:=⟨⟨_,_,1032,Try.func50,rfl,by kernel_rfl,by kernel_rfl,rfl⟩⟩
theorem bodyQ50:HasBody Try.prog 50:=hasBody_of (by kernel_rfl)

def irQ54:IC :=
 .seq (.reg 1000 2 [o1 6 (.mv (.k (.pointer .none))) 1000,o1 7 (.mv (.k (.bool .false))) 1001]) (.seq
 (.reg 1002 1 [o1 8 (.mv (.f 81)) 1002]) (.seq (.seq (.reg 1003 33 [o1 13 (.mv (.t 0)) 1003,o1 14 (.len (.t 13)) 1004,o1 15 (.call 83 [.t 14, .k (.int .i64 1), .k (.int .i64 80)]) 1005,o1 16 (.un .not (.t 15)) 1006,o1 17 (.mv (.t 16)) 1007, .mk (.some 18) (.mv (.t 1)) (.some (17, .false)) 1008 .none .false
 [] .false, .mk (.some 19) (.len (.t 18)) (.some (17, .false)) 1009 .none .false [] .false, .mk (.some 20) (.call 83 [.t 19, .k (.int .i64 1), .k (.int .i64 80)]) (.some (17,
 .false)) 1010 .none .false [] .false, .mk (.some 21) (.un .not (.t 20)) (.some (17, .false)) 1011 .none .false [] .false,o1 22 (.pick (.t 17) (.k (.bool .true)) (.t 21)) 1012,o1 23 (.mv (.t 22)) 1013, .mk (.some 24) (.mv (.t 2)) (.some (23, .false)) 1014 .none .false [] .false,
 .mk (.some 25) (.len (.t 24)) (.some (23, .false)) 1015 .none .false [] .false, .mk (.some 26) (.bin .gtr (.t 25) (.k (.int .i64 20))) (.some (23, .false)) 1016 .none .false []
 .false,o1 27 (.pick (.t 23) (.k (.bool .true)) (.t 26)) 1017,o1 28 (.mv (.t 27)) 1018, .mk (.some 29)
 (.mv (.t 0)) (.some (28, .false)) 1019 .none .false [] .false, .mk (.some 30) (.mv (.t 8)) (.some (28, .false)) 1020 .none .false [] .false, .mk (.some 31) (.call 84 [.t 29, .t
 30]) (.some (28, .false)) 1021 .none .false [] .false, .mk (.some 32) (.un .not (.t 31)) (.some (28, .false)) 1022 .none .false [] .false,o1 33 (.pick (.t 28) (.k (.bool .true)) (.t 32)) 1023,o1 34 (.mv (.t 33)) 1024, .mk (.some 35) (.mv (.t 1)) (.some (34, .false)) 1025 .none
 .false [] .false, .mk (.some 36) (.mv (.t 8)) (.some (34, .false)) 1026 .none .false [] .false, .mk (.some 37) (.call 84 [.t 35, .t 36]) (.some (34, .false)) 1027 .none .false []
 .false, .mk (.some 38) (.un .not (.t 37)) (.some (34, .false)) 1028 .none .false [] .false,o1 39 (.pick (.t 34) (.k (.bool .true)) (.t 38)) 1029,o1 40 (.mv (.t 39)) 1030, .mk (.some 41) (.mv (.t 2)) (.some (40, .false)) 1031 .none .false [] .false, .mk (.some 42) (.mv (.t 8))
 (.some (40, .false)) 1032 .none .false [] .false, .mk (.some 43) (.call 84 [.t 41, .t 42]) (.some (40, .false)) 1033 .none .false [] .false, .mk (.some 44) (.un .not (.t 43))
 (.some (40, .false)) 1034 .none .false [] .false,o1 45 (.pick (.t 40) (.k (.bool .true)) (.t 44)) 1035]) (.cond (.t 45) (.seq (.reg 1036 2
 [o1 6 (.mv (.k (.pointer .none))) 1036,o1 7 (.mv (.k (.bool .false))) 1037]) .ret) .skip)) (.seq (.reg
 1038 5 [o1 46 (.mv (.t 0)) 1038,o1 47 (.mv (.t 2)) 1039,o1 48 (.bld [(0,1),(1,1),(2,1)] [.slice .none 0 0, .slice .none 0 0, .slice .none 0 0] [(0, .t 46),(1, .t 47)]) 1040,o1 49 (.box 160 (.t 48)) 1041,o1 9 (.mv (.t 49)) 1042]) (.seq (.reg 1043 1 [o1 10 (.mv (.k (.bool .false))) 1043]) (.seq
 (.seq (.reg 1044 3 [o1 50 (.mv (.t 1)) 1044,o1 51 (.len (.t 50)) 1045,o1 52 (.mv (.k (.int .i64 0))) 1046]) (.block 0 (.loop (.seq (.reg 1047 1 [o1 53 (.bin .lss (.t 52) (.t 51)) 1047]) (.seq (.cond (.t
 53) .skip (.exit 0)) (.seq (.block 1 (.seq (.reg 1048 3 [o1 54 (.iaddr 1 (.t 50) (.t 52)) 1048,o1 55 (.load 1 .false (.t 54)) 1049,o1 12 (.mv (.t 55)) 1050]) (.seq (.seq (.reg 1051 2 [o1 56 (.mv (.t 12)) 1051, .mk (.some 57) (.pur (.bin .neq 9) [.t 56, .k (.string (ByteArray.mk (Array.mk [46,46,46])))]) .none 1052 .none .false [] .false]) (.cond (.t 57) (.draw 1053 21 [] []
 [o3 58 (.mv (.t 9)) 1053,o3 59 (.mv (.t 9)) 1054,o3 60 (.nilc (.t 59)) 1055,o3 61 (.faddr 2 (.t 60)) 1056,o3 62 (.load 1 .false (.t 61)) 1057,
 o3 63 (.mv (.t 12)) 1058,o3 64 (.mv (.t 10)) 1059,o3 65 (.mv (.t 64)) 1060, .mk (.some 66) (.mv (.t 9)) (.some (65, .false)) 1061 (.some []) .true [] .false, .mk (.some 67) (.nilc (.t 66)) (.some (65, .false)) 1062 (.some [])
 .true [] .false, .mk (.some 68) (.faddr 2 (.t 67)) (.some (65, .false)) 1063 (.some []) .true [] .false, .mk (.some 69) (.load 1 .false (.t 68)) (.some (65, .false)) 1064 (.some
 []) .true [] .false, .mk (.some 70) (.len (.t 69)) (.some (65, .false)) 1065 (.some []) .true [] .false, .mk (.some 71) (.bin .eql (.t 70) (.k (.int .i64 0))) (.some (65, .false))
 1066 (.some []) .true [] .false,o3 72 (.pick (.t 65) (.k (.bool .true)) (.t 71)) 1067, .mk (.some 73) (.bld [(0,1),(1,1)] [.string
 (ByteArray.mk (Array.mk [])), .bool .false] [(0, .t 63),(1, .t 72)]) .none 1068 (.some []) .true [] .false, .mk (.some 74) (.bsl 205 2 1 [.string (ByteArray.mk (Array.mk [])),
 .bool .false] [(0, .t 73)]) .none 1069 (.some []) .true [] .false, .mk (.some 75) (.apph 205 2 24 (.t 62) (.t 74)) .none 1070 (.some [0,1069]) .true [] .true, .mk (.some 76)
 (.nilc (.t 58)) .none 1071 (.some [1069]) .true [] .false, .mk (.some 77) (.faddr 2 (.t 76)) .none 1072 (.some [1069]) .true [] .false, .mk .none (.store 1 (.t 77) (.t 75)) .none
 1073 (.some [1069]) .true [] .false]) .skip)) (.reg 1074 3 [o1 78 (.mv (.t 12)) 1074, .mk (.some 79) (.pur (.bin .eql 9) [.t 78, .k (.string
 (ByteArray.mk (Array.mk [46,46,46])))]) .none 1075 .none .false [] .false,o1 10 (.mv (.t 79)) 1076])))) (.reg 1077 2 [o1 80 (.bin .add (.t 52) (.k (.int .i64 1))) 1077,o1 52 (.mv (.t 80)) 1078]))))))) (.seq (.draw 1079 9 [] [] [o3 81 (.mv (.t 9)) 1079,o3 82 (.mv (.t 9)) 1080,o3 83 (.nilc (.t 82)) 1081,o3 84 (.faddr 2 (.t 83)) 1082,o3 85 (.load 1 .false (.t 84)) 1083,o3 86 (.len (.t 85)) 1084,o3 87 (.bin .gtr (.t 86) (.k (.int .i64 0))) 1085,o3 6 (.mv (.t 81)) 1086,o3 7 (.mv (.t 87)) 1087]) .ret))))))
def rsQ54:List IRes:=[.tmp 6, .tmp 7]
set_option maxRecDepth 100000 in
theorem compQ54:CompAt Try.prog 54 1000 irQ54 rsQ54 88:=⟨⟨_,_,1088,Try.func54,rfl,by kernel_rfl,by kernel_rfl,rfl⟩⟩
theorem bodyQ54:HasBody Try.prog 54:=hasBody_of (by kernel_rfl)

def irQ55:IC :=
 .seq (.reg 1000 2 [o1 4 (.box 155 (.t 0)) 1000,o1 8 (.mv (.k (.bool .false))) 1001]) (.seq (.reg 1002 9
 [o1 10 (.load 1 .false (.t 4)) 1002,o1 11 (.nilc (.t 10)) 1003,o1 12 (.faddr 2 (.t 11)) 1004,o1 13 (.load 1 .false (.t 12)) 1005,o1 14 (.mv (.t 1)) 1006,o1 15 (.iaddr 2 (.t 13) (.t 14)) 1007,o1 16 (.load 2 .true (.t 15)) 1008, .mk (.some 9) (.alloc 205
 [.string (ByteArray.mk (Array.mk [])), .bool .false]) .none 1009 .none .false [] .false,o2 (.store 2 (.t 9) (.t 16)) 1010]) (.seq (.seq (.draw
 1011 27 [9,3] [] [o3 17 (.mv (.t 3)) 1011,o3 18 (.load 1 .false (.t 4)) 1012,o3 19 (.nilc (.t 18)) 1013,o3 20 (.faddr 0 (.t 19)) 1014,o3 21 (.load 1 .false (.t 20)) 1015,o3 22 (.len (.t 21)) 1016,o3 23 (.bin .sub (.t 22) (.k (.int .i64 1))) 1017,o3 24 (.call 83 [.t 17, .k (.int .i64 0), .t 23]) 1018, .mk (.some 25) (.un .not (.t 24)) .none 1019 (.some [1018]) .true []
 .false, .mk (.some 26) (.mv (.t 25)) .none 1020 (.some [1018]) .true [] .false, .mk (.some 27) (.faddr 0 (.t 9)) (.some (26, .false)) 1021 (.some [1018]) .true [] .false, .mk
 (.some 28) (.load 1 .false (.t 27)) (.some (26, .false)) 1022 (.some [1018]) .false [] .false, .mk (.some 29) (.call 85 [.t 28]) (.some (26, .false)) 1023 (.some [1018]) .false []
 .false, .mk (.some 30) (.un .not (.t 29)) (.some (26, .false)) 1024 (.some [1018,1023]) .true [] .false, .mk (.some 31) (.mv (.t 30)) (.some (26, .false)) 1025 (.some [1023,
 1018]) .true [] .false, .mk (.some 32) (.faddr 0 (.t 9)) (.some (31, .true)) 1026 (.some [1018,1023]) .true [] .false, .mk (.some 33) (.load 1 .false (.t 32)) (.some (31, .true))
 1027 (.some [1023,1018]) .false [] .false, .mk (.some 34) (.load 1 .false (.t 4)) (.some (31, .true)) 1028 (.some [1018,1023]) .false [] .false, .mk (.some 35) (.nilc (.t 34))
 (.some (31, .true)) 1029 (.some [1023,1018]) .true [] .false, .mk (.some 36) (.faddr 0 (.t 35)) (.some (31, .true)) 1030 (.some [1018,1023]) .true [] .false, .mk (.some 37)
 (.load 1 .false (.t 36)) (.some (31, .true)) 1031 (.some [1023,1018]) .false [] .false, .mk (.some 38) (.mv (.t 3)) (.some (31, .true)) 1032 (.some [1018,1023]) .true [] .false,
 .mk (.some 39) (.iaddr 1 (.t 37) (.t 38)) (.some (31, .true)) 1033 (.some [1018,1023]) .true [] .false, .mk (.some 40) (.load 1 .false (.t 39)) (.some (31, .true)) 1034 (.some
 [1023,1018]) .false [] .false, .mk (.some 41) (.pur (.bin .neq 9) [.t 33, .t 40]) (.some (31, .true)) 1035 (.some [1018,1023]) .true [] .false, .mk (.some 42) (.pick (.t 31) (.t
 41) (.k (.bool .false))) (.some (26, .false)) 1036 (.some [1018,1023]) .true [] .false, .mk (.some 43) (.pick (.t 26) (.k (.bool .true)) (.t 42)) .none 1037 (.some [1023,1018])
 .true [] .false]) (.cond (.t 43) (.seq (.reg 1038 1 [o1 8 (.mv (.k (.bool .false))) 1038]) .ret) .skip)) (.seq (.seq (.reg 1039 2 [o1 44 (.mv (.t 1)) 1039,o1 45 (.bin .eql (.t 44) (.k (.int .i64 0))) 1040]) (.cond (.t 45) (.seq (.reg 1041 1
 [o1 8 (.mv (.k (.bool .true))) 1041]) .ret) .skip)) (.seq (.seq (.reg 1042 14 [o1 46 (.mv (.t 3)) 1042,
 o1 47 (.mv (.t 2)) 1043,o1 48 (.bin .leq (.t 46) (.t 47)) 1044,o1 49 (.mv (.t 48)) 1045, .mk (.some 50) (.faddr 1 (.t 9)) (.some (49, .false)) 1046 .none .false [] .false, .mk (.some 51) (.load 1 .false (.t 50)) (.some (49, .false)) 1047
 .none .false [] .false, .mk (.some 52) (.un .not (.t 51)) (.some (49, .false)) 1048 .none .false [] .false, .mk (.some 53) (.mv (.t 52)) (.some (49, .false)) 1049 .none .false []
 .false, .mk (.some 54) (.mv (.t 3)) (.some (53, .true)) 1050 .none .false [] .false, .mk (.some 55) (.mv (.t 2)) (.some (53, .true)) 1051 .none .false [] .false, .mk (.some 56)
 (.bin .add (.t 55) (.k (.int .i64 1))) (.some (53, .true)) 1052 .none .false [] .false, .mk (.some 57) (.bin .neq (.t 54) (.t 56)) (.some (53, .true)) 1053 .none .false [] .false,
 .mk (.some 58) (.pick (.t 53) (.t 57) (.k (.bool .false))) (.some (49, .false)) 1054 .none .false [] .false,o1 59 (.pick (.t 49) (.k (.bool .true)) (.t 58)) 1055]) (.cond (.t 59) (.seq (.reg 1056 1 [o1 8 (.mv (.k (.bool .false))) 1056]) .ret) .skip)) (.seq (.reg 1057 11 [o1 60 (.load 1 .false (.t 4)) 1057,o1 61 (.nilc (.t 60)) 1058,o1 62 (.faddr 0 (.t 61)) 1059,o1 63 (.load 1 .false (.t 62)) 1060,o1 64 (.mv (.t 2)) 1061,o1 65 (.bin .add (.t 64) (.k (.int .i64 1))) 1062,o1 66 (.mv (.t 3)) 1063,o1 67 (.slc 1 (.t 63) (.some (.t 65)) (.some (.t 66)) .none) 1064,o1 68 (.mkf 86 [] [.t 4]) 1065,o1 69 (.call 84 [.t 67, .t 68]) 1066,o1 8 (.mv (.t 69)) 1067]) .ret)))))
def rsQ55:List IRes:=[.tmp 8]
set_option maxRecDepth 100000 in
theorem compQ55:CompAt Try.prog 55 1000 irQ55 rsQ55 70:=⟨⟨_,_,1068,Try.func55,rfl,by kernel_rfl,by kernel_rfl,rfl⟩⟩
theorem bodyQ55:HasBody Try.prog 55:=hasBody_of (by kernel_rfl)

def irQ74:IC :=
 .seq (.reg 1000 1 [o1 9 (.mv (.k (.bool .false))) 1000]) (.seq (.seq (.reg 1001 7 [o1 11 (.mv (.t 0)) 1001,o1 12 (.load 1 .false (.t 2)) 1002,o1 13 (.nilc (.t 12)) 1003,o1 14 (.faddr 2 (.t 13)) 1004,o1 15 (.load 1 .false (.t 14)) 1005,o1 16 (.len (.t 15)) 1006,
 o1 17 (.bin .eql (.t 11) (.t 16)) 1007]) (.cond (.t 17) (.seq (.reg 1008 1 [o1 9 (.mv (.k (.bool .true))) 1008]) .ret) .skip)) (.seq (.seq (.reg 1009 5 [o1 18 (.load 1 .false (.t 3)) 1009,o1 19 (.mv (.t 0)) 1010,o1 20 (.mv (.t 1)) 1011,o1 21 (.bld [(0,1),(1,1)] [.int .i64 0, .int .i64 0] [(0, .t 19),(1, .t 20)]) 1012,o1 22 (.lkp 196 (.bool .false) .false (.t 18) (.t 21)) 1013]) (.cond (.t 22) (.seq (.reg 1014 1 [o1 9 (.mv (.k (.bool .false))) 1014]) .ret) .skip)) (.seq (.seq (.reg 1015 3 [o1 23 (.mv (.t 1)) 1015,o1 24 (.bin .add (.t 23) (.k (.int .i64 1))) 1016,o1 10 (.mv (.t 24)) 1017]) (.block 0 (.loop (.seq (.seq (.reg 1018 4 [o1 25 (.mv (.t 10)) 1018,o1 26 (.load 1 .false (.t 4)) 1019,o1 27 (.len (.t 26)) 1020,o1 28 (.bin .lss (.t 25) (.t 27)) 1021]) (.cond (.t 28) .skip (.exit 0))) (.seq (.block 1 (.seq (.seq (.reg 1022 6
 [o1 31 (.load 1 .false (.t 2)) 1022,o1 32 (.mv (.t 0)) 1023,o1 33 (.mv (.t 1)) 1024,o1 34 (.mv (.t 10)) 1025,o1 35 (.call 55 [.t 31, .t 32, .t 33, .t 34]) 1026,
 o1 36 (.un .not (.t 35)) 1027]) (.cond (.t 36) (.exit 1) .skip)) (.seq (.reg 1028 5 [o1 37 (.load 1 .false (.t 5)) 1028,o1 38 (.mv (.t 10)) 1029,o1 39 (.bsl 3 1 1 [.int .i64 0] [(0, .t 38)]) 1030,o1 40 (.apph 3 1 8 (.t 37) (.t 39)) 1031,o2 (.store 1 (.t 5) (.t 40)) 1032]) (.seq (.seq (.reg 1033 5 [o1 41 (.load 1 .false (.t 6)) 1033,o1 42 (.mv (.t 0)) 1034,o1 43 (.bin .add (.t 42) (.k (.int .i64 1))) 1035,o1 44 (.mv (.t 10)) 1036,o1 45 (.callv (.t 41) [.t 43, .t 44]) 1037]) (.cond (.t 45) (.seq (.reg 1038 1 [o1 9 (.mv (.k (.bool .true))) 1038]) .ret) .skip)) (.reg 1039 6 [o1 46 (.load 1 .false (.t 5)) 1039,o1 47 (.load 1 .false (.t 5)) 1040,o1 48 (.len (.t 47)) 1041,o1 49 (.bin .sub (.t 48) (.k (.int .i64 1))) 1042,o1 50 (.slc 1 (.t 46) .none (.some (.t 49)) .none) 1043,o2 (.store 1 (.t 5) (.t 50)) 1044]))))) (.reg 1045 3 [o1 29 (.mv (.t 10)) 1045,o1 30 (.bin .add (.t 29) (.k (.int .i64 1))) 1046,o1 10 (.mv (.t 30)) 1047])))))) (.seq (.reg 1048 5 [o1 51 (.load 1 .false (.t 3)) 1048,o1 52 (.mv (.t 0)) 1049,o1 53 (.mv (.t 1)) 1050,o1 54 (.bld [(0,1),(1,1)] [.int .i64 0, .int .i64 0] [(0, .t 52),(1, .t 53)]) 1051,o2 (.mup 196 (.t 51) (.t 54) (.k (.bool .true))) 1052]) (.seq (.reg 1053 1 [o1 9 (.mv (.k (.bool .false))) 1053]) .ret)))))
def rsQ74:List IRes:=[.tmp 9]
set_option maxRecDepth 100000 in
theorem compQ74:CompAt Try.prog 74 1000 irQ74 rsQ74 55:=⟨⟨_,_,1054,Try.func74,rfl,by kernel_rfl,by kernel_rfl,rfl⟩⟩
theorem bodyQ74:HasBody Try.prog 74:=hasBody_of (by kernel_rfl)

def irQ81:IC :=
 .seq (.reg 1000 1 [o1 2 (.mv (.k (.bool .false))) 1000]) (.seq (.reg 1001 3 [o1 3 (.mv (.t 0)) 1001,o1 4 (.call 82 [.t 3, .k (.int .u8 33)]) 1002,o1 2 (.mv (.t 4)) 1003]) .ret)
def rsQ81:List IRes:=[.tmp 2]
set_option maxRecDepth 100000 in
theorem compQ81:CompAt Try.prog 81 1000 irQ81 rsQ81 5:=⟨⟨_,_,1004,Try.func81,rfl,by kernel_rfl,by kernel_rfl,rfl⟩⟩
theorem bodyQ81:HasBody Try.prog 81:=hasBody_of (by kernel_rfl)

def irQ82:IC :=
 .seq (.reg 1000 2 [o1 3 (.box 5 (.t 1)) 1000,o1 4 (.mv (.k (.bool .false))) 1001]) (.seq (.reg 1002 10
 [o1 5 (.mv (.t 0)) 1002,o1 6 (.lenS (.t 5)) 1003,o1 7 (.call 83 [.t 6, .k (.int .i64 1), .k (.int .i64 32)]) 1004,o1 8 (.mv (.t 7)) 1005, .mk (.some 9) (.mv (.t 0)) (.some (8, .true)) 1006 .none .false
 [] .false, .mk (.some 10) (.s2b 5 (.t 9)) (.some (8, .true)) 1007 .none .false [] .false, .mk (.some 11) (.mkf 122 [] [.t 3]) (.some (8, .true)) 1008 .none .false [] .false, .mk
 (.some 12) (.call 121 [.t 10, .t 11]) (.some (8, .true)) 1009 .none .false [] .false,o1 13 (.pick (.t 8) (.t 12) (.k (.bool .false))) 1010,
 o1 4 (.mv (.t 13)) 1011]) .ret)
def rsQ82:List IRes:=[.tmp 4]
set_option maxRecDepth 100000 in
theorem compQ82:CompAt Try.prog 82 1000 irQ82 rsQ82 14:=⟨⟨_,_,1012,Try.func82,rfl,by kernel_rfl,by kernel_rfl,rfl⟩⟩
theorem bodyQ82:HasBody Try.prog 82:=hasBody_of (by kernel_rfl)

def irQ83:IC :=
 .seq (.reg 0 1 [o1 6 (.mv (.k (.bool .false))) 0]) (.seq (.reg 1 9 [o1 7 (.mv (.t 1)) 1,o1 8 (.mv (.t 0)) 2,o1 9 (.bin .leq (.t 7) (.t 8)) 3,o1 10 (.mv (.t 9)) 4,
 .mk (.some 11) (.mv (.t 0)) (.some (10, .true)) 5 .none .false [] .false, .mk (.some 12) (.mv (.t 2)) (.some (10, .true)) 6 .none .false [] .false, .mk (.some 13) (.bin .leq (.t
 11) (.t 12)) (.some (10, .true)) 7 .none .false [] .false,o1 14 (.pick (.t 10) (.t 13) (.k (.bool .false))) 8,o1 6 (.mv (.t 14)) 9]) .ret)
def rsQ83:List IRes:=[.tmp 6]
set_option maxRecDepth 100000 in
theorem compQ83:Comp Try.prog 83 irQ83 rsQ83 15:=⟨⟨_,_,10,Try.func83,rfl,by kernel_rfl,by kernel_rfl,rfl⟩⟩
theorem bodyQ83:HasBody Try.prog 83:=hasBody_of (by kernel_rfl)

def irQ84:IC :=
 .seq (.reg 1000 2 [o1 3 (.box 69 (.t 1)) 1000,o1 4 (.mv (.k (.bool .false))) 1001]) (.seq (.reg 1002 5
 [o1 5 (.mv (.t 0)) 1002,o1 6 (.mkf 124 [] [.t 3]) 1003,o1 7 (.call 123 [.t 5, .t 6]) 1004,o1 8 (.un .not (.t 7)) 1005,o1 4 (.mv (.t 8)) 1006]) .ret)
def rsQ84:List IRes:=[.tmp 4]
set_option maxRecDepth 100000 in
theorem compQ84:CompAt Try.prog 84 1000 irQ84 rsQ84 9:=⟨⟨_,_,1007,Try.func84,rfl,by kernel_rfl,by kernel_rfl,rfl⟩⟩
theorem bodyQ84:HasBody Try.prog 84:=hasBody_of (by kernel_rfl)

def irQ85:IC :=
 .seq (.reg 0 1 [o1 2 (.mv (.k (.bool .false))) 0]) (.seq (.reg 1 17 [o1 3 (.mv (.t 0)) 1,o1 4 (.lenS (.t 3)) 2,o1 5 (.bin .geq (.t 4) (.k (.int .i64 3))) 3,o1 6 (.mv (.t 5)) 4, .mk (.some 7) (.mv (.t 0)) (.some (6, .true)) 5 .none .false [] .false, .mk (.some 8) (.pur (.idx 9) [.t 7, .k (.int .i64 0)]) (.some (6, .true)) 6 .none .false []
 .false, .mk (.some 9) (.bin .eql (.t 8) (.k (.int .u8 91))) (.some (6, .true)) 7 .none .false [] .false,o1 10 (.pick (.t 6) (.t 9) (.k (.bool .false))) 8,o1 11 (.mv (.t 10)) 9, .mk (.some 12) (.mv (.t 0)) (.some (11, .true)) 10 .none .false [] .false, .mk (.some 13) (.mv (.t
 0)) (.some (11, .true)) 11 .none .false [] .false, .mk (.some 14) (.lenS (.t 13)) (.some (11, .true)) 12 .none .false [] .false, .mk (.some 15) (.bin .sub (.t 14) (.k (.int .i64
 1))) (.some (11, .true)) 13 .none .false [] .false, .mk (.some 16) (.pur (.idx 9) [.t 12, .t 15]) (.some (11, .true)) 14 .none .false [] .false, .mk (.some 17) (.bin .eql (.t 16)
 (.k (.int .u8 93))) (.some (11, .true)) 15 .none .false [] .false,o1 18 (.pick (.t 11) (.t 17) (.k (.bool .false))) 16,o1 2 (.mv (.t 18)) 17]) .ret)
def rsQ85:List IRes:=[.tmp 2]
set_option maxRecDepth 100000 in
theorem compQ85:Comp Try.prog 85 irQ85 rsQ85 19:=⟨⟨_,_,18,Try.func85,rfl,by kernel_rfl,by kernel_rfl,rfl⟩⟩
theorem bodyQ85:HasBody Try.prog 85:=hasBody_of (by kernel_rfl)

def irQ86:IC :=
 .seq (.reg 1000 1 [o1 3 (.mv (.k (.bool .false))) 1000]) (.seq (.reg 1001 8 [o1 4 (.load 1 .false (.t 1)) 1001,o1 5 (.nilc (.t 4)) 1002,o1 6 (.faddr 1 (.t 5)) 1003,o1 7 (.load 1 .false (.t 6)) 1004,o1 8 (.mv (.t 0)) 1005,o1 9 (.call 87 [.t 7, .t 8]) 1006,o1 10 (.un .not (.t 9)) 1007,o1 3 (.mv (.t 10)) 1008]) .ret)
def rsQ86:List IRes:=[.tmp 3]
set_option maxRecDepth 100000 in
theorem compQ86:CompAt Try.prog 86 1000 irQ86 rsQ86 11:=⟨⟨_,_,1009,Try.func86,rfl,by kernel_rfl,by kernel_rfl,rfl⟩⟩
theorem bodyQ86:HasBody Try.prog 86:=hasBody_of (by kernel_rfl)

def irQ87:IC :=
 .seq (.reg 0 1 [o1 4 (.mv (.k (.bool .false))) 0]) (.seq (.reg 1 5 [o1 5 (.mv (.t 0)) 1,o1 6 (.mv (.t 1)) 2,o1 7 (.call 125 [.t 5, .t 6]) 3,o1 8 (.bin .geq (.t 7) (.k (.int .i64 0))) 4,o1 4 (.mv (.t 8)) 5]) .ret)
def rsQ87:List IRes:=[.tmp 4]
set_option maxRecDepth 100000 in
theorem compQ87:Comp Try.prog 87 irQ87 rsQ87 9:=⟨⟨_,_,6,Try.func87,rfl,by kernel_rfl,by kernel_rfl,rfl⟩⟩
theorem bodyQ87:HasBody Try.prog 87:=hasBody_of (by kernel_rfl)

def irQ121:IC :=
 .seq (.reg 1000 2 [o1 3 (.box 244 (.t 1)) 1000,o1 4 (.mv (.k (.bool .false))) 1001]) (.seq (.reg 1002 5
 [o1 5 (.mv (.t 0)) 1002,o1 6 (.mkf 160 [] [.t 3]) 1003,o1 7 (.call 159 [.t 5, .t 6]) 1004,o1 8 (.un .not (.t 7)) 1005,o1 4 (.mv (.t 8)) 1006]) .ret)
def rsQ121:List IRes:=[.tmp 4]
set_option maxRecDepth 100000 in
theorem compQ121:CompAt Try.prog 121 1000 irQ121 rsQ121 9:=⟨⟨_,_,1007,Try.func121,rfl,by kernel_rfl,by kernel_rfl,rfl⟩⟩
theorem bodyQ121:HasBody Try.prog 121:=hasBody_of (by kernel_rfl)

def irQ122:IC :=
 .seq (.reg 1000 1 [o1 3 (.mv (.k (.bool .false))) 1000]) (.seq (.reg 1001 8 [o1 4 (.load 1 .false (.t 1)) 1001,o1 5 (.mv (.t 0)) 1002,o1 6 (.bin .leq (.t 4) (.t 5)) 1003,o1 7 (.mv (.t 6)) 1004, .mk (.some 8) (.mv (.t 0)) (.some (7, .true)) 1005 .none .false [] .false, .mk (.some 9) (.bin .leq (.t 8) (.k (.int .u8 126))) (.some (7, .true))
 1006 .none .false [] .false,o1 10 (.pick (.t 7) (.t 9) (.k (.bool .false))) 1007,o1 3 (.mv (.t 10)) 1008]) .ret)
def rsQ122:List IRes:=[.tmp 3]
set_option maxRecDepth 100000 in
theorem compQ122:CompAt Try.prog 122 1000 irQ122 rsQ122 11:=⟨⟨_,_,1009,Try.func122,rfl,by kernel_rfl,by kernel_rfl,rfl⟩⟩
theorem bodyQ122:HasBody Try.prog 122:=hasBody_of (by kernel_rfl)

def irQ124:IC :=
 .seq (.reg 1000 1 [o1 3 (.mv (.k (.bool .false))) 1000]) (.seq (.reg 1001 5 [o1 4 (.load 1 .false (.t 1)) 1001,o1 5 (.mv (.t 0)) 1002,o1 6 (.callv (.t 4) [.t 5]) 1003,o1 7 (.un .not (.t 6)) 1004,o1 3 (.mv (.t 7)) 1005]) .ret)
def rsQ124:List IRes:=[.tmp 3]
set_option maxRecDepth 100000 in
theorem compQ124:CompAt Try.prog 124 1000 irQ124 rsQ124 8:=⟨⟨_,_,1006,Try.func124,rfl,by kernel_rfl,by kernel_rfl,rfl⟩⟩
theorem bodyQ124:HasBody Try.prog 124:=hasBody_of (by kernel_rfl)

def irQ125:IC :=
 .seq (.reg 0 1 [o1 4 (.mv (.k (.int .i64 0))) 0]) (.seq (.seq (.reg 1 3 [o1 6 (.mv (.t 0)) 1,o1 7 (.len (.t 6)) 2,o1 8 (.mv (.k (.int .i64 0))) 3]) (.block 0 (.loop (.seq (.reg 4 1 [o1 9 (.bin .lss (.t 8) (.t 7)) 4]) (.seq (.cond (.t 9) .skip (.exit 0)) (.seq (.block 1 (.seq (.reg 5 2 [o1 10 (.mv (.t 8)) 5,
 o1 5 (.mv (.t 10)) 6]) (.seq (.reg 7 6 [o1 11 (.mv (.t 1)) 7,o1 12 (.mv (.t 0)) 8,o1 13 (.mv (.t 5)) 9,o1 14 (.iaddr 1 (.t 12) (.t 13)) 10,o1 15 (.load 1 .false (.t 14)) 11,o1 16 (.pur (.bin .eql 9) [.t 11, .t 15]) 12]) (.cond (.t 16) (.seq (.reg 13 2 [o1 17 (.mv (.t 5)) 13,o1 4 (.mv (.t 17)) 14]) .ret) .skip)))) (.reg 15 2 [o1 18 (.bin .add (.t 8) (.k (.int .i64 1))) 15,o1 8 (.mv (.t 18)) 16]))))))) (.seq (.reg 17 1 [o1 4 (.mv (.k (.int .i64 (-1)))) 17]) .ret))
def rsQ125:List IRes:=[.tmp 4]
set_option maxRecDepth 100000 in
theorem compQ125:Comp Try.prog 125 irQ125 rsQ125 19:=⟨⟨_,_,18,Try.func125,rfl,by kernel_rfl,by kernel_rfl,rfl⟩⟩
theorem bodyQ125:HasBody Try.prog 125:=hasBody_of (by kernel_rfl)

def irQ160:IC :=
 .seq (.reg 1000 1 [o1 3 (.mv (.k (.bool .false))) 1000]) (.seq (.reg 1001 5 [o1 4 (.load 1 .false (.t 1)) 1001,o1 5 (.mv (.t 0)) 1002,o1 6 (.callv (.t 4) [.t 5]) 1003,o1 7 (.un .not (.t 6)) 1004,o1 3 (.mv (.t 7)) 1005]) .ret)
def rsQ160:List IRes:=[.tmp 3]
set_option maxRecDepth 100000 in
theorem compQ160:CompAt Try.prog 160 1000 irQ160 rsQ160 8:=⟨⟨_,_,1006,Try.func160,rfl,by kernel_rfl,by kernel_rfl,rfl⟩⟩
theorem bodyQ160:HasBody Try.prog 160:=hasBody_of (by kernel_rfl)

end Go.Proofs.Ytefnikpoimaiiaa
