/- The intermediate forms of functions of the program (printed by a program of mine), each checked against the code. The intermediate forms of functions of the program (printed by a program of mine), each checked against the code. The intermediate forms of functions of the program (printed by a program of mine), each checked against the code. The intermediate forms of functions of the program (printed by a program of mine), each checked against the code. The intermediate forms of functions of the program (printed by a program of mine), each checked against the code. The intermediate forms of functions of the program (printed by a program of mine), each checked against the code. -/
import Derived.Test.YtfppbjfbghaclaaGreatMC
import Derived.Test.YtfppbjfbghaclaaGreatProg
import Derived.KernelRfl
set_option linter.unusedSimpArgs false
set_option linter.unusedVariables false
namespace Go.Proofs.YtfppbjfbghaclaaGreat
open Go.Pal
def ir53:IC :=
 .seq (.reg 1000 2 [o1 1 (.box 35 (.t 0)) 1000,o1 2 (.mv (.k (.bool .false))) 1001]) (.seq (.reg 1002 2
 [o1 3 (.alloc 3 [.int .i64 0]) 1002,o2 (.store 1 (.t 3) (.k (.int .i64 0))) 1003]) (.seq (.reg 1004 2
 [o1 7 (.mkf 75 [] [.t 3]) 1004,o1 4 (.mv (.t 7)) 1005]) (.seq (.reg 1006 2 [o1 5 (.alloc 3 [.int .i64 0]) 1006,o2 (.store 1 (.t 5) (.k (.int .i64 (-1)))) 1007]) (.seq (.reg 1008 2 [o1 8 (.mkf 78 [] [.t 5, .t 1]) 1008,o1 6 (.mv (.t 8)) 1009]) (.seq (.reg 1010 17 [o1 9 (.faddr 0 (.t 1)) 1010,o1 10 (.load 1 .false (.t 9)) 1011,o1 11 (.len (.t 10)) 1012,o1 12 (.bin .leq (.t 11) (.k (.int .i64 60))) 1013,o1 13 (.mv (.t 12)) 1014, .mk (.some 14) (.faddr 0 (.t 1)) (.some
 (13, .true)) 1015 .none .false [] .false, .mk (.some 15) (.load 1 .false (.t 14)) (.some (13, .true)) 1016 .none .false [] .false, .mk (.some 16) (.mv (.t 4)) (.some (13, .true))
 1017 .none .false [] .false, .mk (.some 17) (.call 79 [.t 15, .t 16]) (.some (13, .true)) 1018 .none .false [] .false,o1 18 (.pick (.t 13) (.t 17) (.k (.bool .false))) 1019,o1 19 (.mv (.t 18)) 1020, .mk (.some 20) (.faddr 1 (.t 1)) (.some (19, .true)) 1021 .none .false []
 .false, .mk (.some 21) (.load 1 .false (.t 20)) (.some (19, .true)) 1022 .none .false [] .false, .mk (.some 22) (.mv (.t 6)) (.some (19, .true)) 1023 .none .false [] .false, .mk
 (.some 23) (.call 80 [.t 21, .t 22]) (.some (19, .true)) 1024 .none .false [] .false,o1 24 (.pick (.t 19) (.t 23) (.k (.bool .false))) 1025,
 o1 2 (.mv (.t 24)) 1026]) .ret)))))
def rs53:List IRes:=[.tmp 2]
set_option maxRecDepth 100000 in
theorem comp53:CompAt Tryz.prog 53 1000 ir53 rs53 25:=⟨⟨_,_,1027,Tryz.func53,rfl,by kernel_rfl,by kernel_rfl,rfl⟩⟩
theorem body53:HasBody Tryz.prog 53:=hasBody_of (by kernel_rfl)
def ir57:IC :=
 .seq (.reg 1000 2 [o1 3 (.box 3 (.t 1)) 1000,o1 4 (.mv (.k (.bool .false))) 1001]) (.seq (.draw 1002 15
 [3,0] [3] [o3 5 (.mv (.t 0)) 1002,o3 6 (.nilc (.t 5)) 1003,o3 7 (.faddr 3 (.t 6)) 1004,o3 8 (.load 1 .false (.t 7)) 1005,o3 9 (.load 1 .false (.t 3)) 1006,o3 10 (.call 82 [.t 8, .t 9]) 1007, .mk (.some 11) (.mv (.t 10)) .none 1008 (.some [1007]) .true [] .false, .mk (.some
 12) (.mv (.t 0)) (.some (11, .true)) 1009 (.some [1007]) .true [] .false, .mk (.some 13) (.nilc (.t 12)) (.some (11, .true)) 1010 (.some [1007]) .true [] .false, .mk (.some 14)
 (.faddr 2 (.t 13)) (.some (11, .true)) 1011 (.some [1007]) .true [] .false, .mk (.some 15) (.load 1 .false (.t 14)) (.some (11, .true)) 1012 (.some [1007]) .false [] .false, .mk
 (.some 16) (.mkf 84 [] [.t 3]) (.some (11, .true)) 1013 (.some [1007]) .true [] .false, .mk (.some 17) (.call 83 [.t 15, .t 16]) (.some (11, .true)) 1014 (.some [1007]) .false []
 .false, .mk (.some 18) (.pick (.t 11) (.t 17) (.k (.bool .false))) .none 1015 (.some [1014,1007]) .true [] .false, .mk (.some 4) (.mv (.t 18)) .none 1016 (.some [1007,1014])
 .true [] .false]) .ret)
def rs57:List IRes:=[.tmp 4]
set_option maxRecDepth 100000 in
theorem comp57:CompAt Tryz.prog 57 1000 ir57 rs57 19:=⟨⟨_,_,1017,Tryz.func57,rfl,by kernel_rfl,by kernel_rfl,rfl⟩⟩
theorem body57:HasBody Tryz.prog 57:=hasBody_of (by kernel_rfl)
def ir58:IC :=
 .seq (.reg 1000 2 [o1 1 (.box 119 (.t 0)) 1000,o1 2 (.mv (.k (.bool .false))) 1001]) (.seq (.reg 1002 9
 [o1 3 (.faddr 0 (.t 1)) 1002,o1 4 (.load 1 .false (.t 3)) 1003,o1 5 (.call 59 [.t 4, .k (.int .i64 1), .k (.int .i64 4)]) 1004,o1 6 (.mv (.t 5)) 1005, .mk (.some 7) (.faddr 1 (.t 1)) (.some (6,
 .true)) 1006 .none .false [] .false, .mk (.some 8) (.load 1 .false (.t 7)) (.some (6, .true)) 1007 .none .false [] .false, .mk (.some 9) (.call 59 [.t 8, .k (.int .i64 0), .k
 (.int .i64 4)]) (.some (6, .true)) 1008 .none .false [] .false,o1 10 (.pick (.t 6) (.t 9) (.k (.bool .false))) 1009,o1 2 (.mv (.t 10)) 1010]) .ret)
def rs58:List IRes:=[.tmp 2]
set_option maxRecDepth 100000 in
theorem comp58:CompAt Tryz.prog 58 1000 ir58 rs58 11:=⟨⟨_,_,1011,Tryz.func58,rfl,by kernel_rfl,by kernel_rfl,rfl⟩⟩
theorem body58:HasBody Tryz.prog 58:=hasBody_of (by kernel_rfl)
def ir59:IC :=
 .seq (.reg 1000 1 [o1 6 (.mv (.k (.bool .false))) 1000]) (.seq (.reg 1001 10 [o1 7 (.mv (.t 0)) 1001,o1 8 (.len (.t 7)) 1002,o1 9 (.mv (.t 1)) 1003,o1 10 (.mv (.t 2)) 1004,o1 11 (.call 77 [.t 8, .t 9, .t 10]) 1005,o1 12 (.mv (.t 11)) 1006, .mk (.some 13) (.mv (.t
 0)) (.some (12, .true)) 1007 .none .false [] .false, .mk (.some 14) (.call 85 [.t 13, .f 76]) (.some (12, .true)) 1008 .none .false [] .false,o1 15 (.pick (.t 12) (.t 14) (.k (.bool .false))) 1009,o1 6 (.mv (.t 15)) 1010]) .ret)
def rs59:List IRes:=[.tmp 6]
set_option maxRecDepth 100000 in
theorem comp59:CompAt Tryz.prog 59 1000 ir59 rs59 16:=⟨⟨_,_,1011,Tryz.func59,rfl,by kernel_rfl,by kernel_rfl,rfl⟩⟩
theorem body59:HasBody Tryz.prog 59:=hasBody_of (by kernel_rfl)
def ir60:IC :=
 .seq (.reg 1000 2 [o1 3 (.box 121 (.t 1)) 1000,o1 4 (.mv (.k (.bool .false))) 1001]) (.seq (.reg 1002 5
 [o1 5 (.mv (.t 0)) 1002,o1 6 (.mkf 87 [] [.t 3]) 1003,o1 7 (.call 86 [.t 5, .t 6]) 1004,o1 8 (.un .not (.t 7)) 1005,o1 4 (.mv (.t 8)) 1006]) .ret)
def rs60:List IRes:=[.tmp 4]
set_option maxRecDepth 100000 in
theorem comp60:CompAt Tryz.prog 60 1000 ir60 rs60 9:=⟨⟨_,_,1007,Tryz.func60,rfl,by kernel_rfl,by kernel_rfl,rfl⟩⟩
theorem body60:HasBody Tryz.prog 60:=hasBody_of (by kernel_rfl)
def ir61:IC :=
 .seq (.reg 1000 2 [o1 1 (.box 35 (.t 0)) 1000,o1 2 (.mv (.k (.pointer .none))) 1001]) (.seq (.reg 1002 4
 [o1 6 (.load 2 .true (.t 1)) 1002,o1 7 (.bld [(0,2),(2,1),(3,1),(4,1)] [.slice .none 0 0, .slice .none 0 0, .slice .none 0 0, .slice .none 0 0, .int .i64 0] [(0, .t 6)]) 1003,o1 8 (.box 105 (.t 7)) 1004,o1 3 (.mv (.t 8)) 1005]) (.seq (.seq (.reg 1006 4 [o1 9 (.faddr 0 (.t 1)) 1006,o1 10 (.load 1 .false (.t 9)) 1007,o1 11 (.len (.t 10)) 1008,o1 12 (.mv (.k (.int .i64 0))) 1009]) (.block 0
 (.loop (.seq (.reg 1010 1 [o1 13 (.bin .lss (.t 12) (.t 11)) 1010]) (.seq (.cond (.t 13) .skip (.exit 0)) (.seq (.block 1 (.seq (.reg 1011 6
 [o1 14 (.mv (.t 12)) 1011,o1 15 (.iaddr 3 (.t 10) (.t 12)) 1012,o1 16 (.load 3 .true (.t 15)) 1013, .mk (.some 5) (.alloc 107 [.string (ByteArray.mk (Array.mk [])), .int .i64 0, .int .i64 0]) .none 1014 .none .false [] .false,o1 4 (.mv (.t 14)) 1015,o2 (.store 3 (.t 5) (.t 16)) 1016]) (.draw 1017 15 [] [] [o3 17 (.mv (.t 3)) 1017,o3 18 (.mv (.t 3)) 1018,o3 19 (.nilc (.t 18)) 1019,o3 20 (.faddr 2 (.t 19)) 1020,o3 21 (.load 1 .false (.t 20)) 1021,o3 22 (.faddr 0 (.t 5)) 1022,o3 23 (.load 1 .false (.t 22)) 1023,o3 24 (.mv (.t 4)) 1024, .mk (.some 25) (.bld [(0,1),(1,1),(2,1)] [.string (ByteArray.mk (Array.mk [])), .int .i64 0, .int .i64 0] [(0, .t 23),(1, .t 24),(2, .k (.int .i64 0))]) .none
 1025 (.some []) .true [] .false, .mk (.some 26) (.bld [(0,3),(3,1)] [.string (ByteArray.mk (Array.mk [])), .int .i64 0, .int .i64 0, .int .i64 0] [(0, .t 25),(1, .k (.int .i64
 0))]) .none 1026 (.some []) .true [] .false, .mk (.some 27) (.bsl 102 4 1 [.string (ByteArray.mk (Array.mk [])), .int .i64 0, .int .i64 0, .int .i64 0] [(0, .t 26)]) .none 1027
 (.some []) .true [] .false, .mk (.some 28) (.apph 102 4 40 (.t 21) (.t 27)) .none 1028 (.some [0,1027]) .true [] .true, .mk (.some 29) (.nilc (.t 17)) .none 1029 (.some [1027])
 .true [] .false, .mk (.some 30) (.faddr 2 (.t 29)) .none 1030 (.some [1027]) .true [] .false, .mk .none (.store 1 (.t 30) (.t 28)) .none 1031 (.some [1027]) .true [] .false])))
 (.reg 1032 2 [o1 31 (.bin .add (.t 12) (.k (.int .i64 1))) 1032,o1 12 (.mv (.t 31)) 1033]))))))) (.seq
 (.reg 1034 2 [o1 32 (.mv (.t 3)) 1034,o1 2 (.mv (.t 32)) 1035]) .ret)))
def rs61:List IRes:=[.tmp 2]
set_option maxRecDepth 100000 in
theorem comp61:CompAt Tryz.prog 61 1000 ir61 rs61 33:=⟨⟨_,_,1036,Tryz.func61,rfl,by kernel_rfl,by kernel_rfl,rfl⟩⟩
theorem body61:HasBody Tryz.prog 61:=hasBody_of (by kernel_rfl)
def ir65:IC :=
 .seq (.reg 1000 1 [o1 3 (.box 76 (.t 1)) 1000]) (.seq (.reg 1001 3 [o1 14 (.mv (.t 0)) 1001,o1 15 (.call 88 [.t 14]) 1002,o1 4 (.mv (.t 15)) 1003]) (.seq (.reg 1004 33 [o1 16 (.faddr 1 (.t 3)) 1004,o1 17 (.load 1 .false (.t 16)) 1005,o1 18 (.bin .geq (.t 17) (.k (.int .i64 0))) 1006,o1 19 (.mv (.t 18)) 1007, .mk (.some 20) (.faddr 2 (.t 3)) (.some (19, .true)) 1008 .none .false [] .false, .mk
 (.some 21) (.load 1 .false (.t 20)) (.some (19, .true)) 1009 .none .false [] .false, .mk (.some 22) (.call 77 [.t 21, .k (.int .i64 0), .k (.int .i64 4)]) (.some (19, .true)) 1010
 .none .false [] .false,o1 23 (.pick (.t 19) (.t 22) (.k (.bool .false))) 1011,o1 24 (.mv (.t 23)) 1012, .mk (.some 25) (.faddr 1 (.t 3)) (.some (24, .true)) 1013 .none .false [] .false, .mk (.some 26) (.load 1 .false (.t 25)) (.some (24, .true)) 1014 .none .false [] .false,
 .mk (.some 27) (.mv (.t 4)) (.some (24, .true)) 1015 .none .false [] .false, .mk (.some 28) (.len (.t 27)) (.some (24, .true)) 1016 .none .false [] .false, .mk (.some 29) (.faddr
 2 (.t 3)) (.some (24, .true)) 1017 .none .false [] .false, .mk (.some 30) (.load 1 .false (.t 29)) (.some (24, .true)) 1018 .none .false [] .false, .mk (.some 31) (.bin .sub (.t
 28) (.t 30)) (.some (24, .true)) 1019 .none .false [] .false, .mk (.some 32) (.bin .leq (.t 26) (.t 31)) (.some (24, .true)) 1020 .none .false [] .false,o1 33 (.pick (.t 24) (.t 32) (.k (.bool .false))) 1021,o1 34 (.mv (.t 33)) 1022, .mk (.some 35) (.faddr 3 (.t 3)) (.some (34,
 .true)) 1023 .none .false [] .false, .mk (.some 36) (.load 1 .false (.t 35)) (.some (34, .true)) 1024 .none .false [] .false, .mk (.some 37) (.call 59 [.t 36, .k (.int .i64 0), .k
 (.int .i64 4)]) (.some (34, .true)) 1025 .none .false [] .false,o1 38 (.pick (.t 34) (.t 37) (.k (.bool .false))) 1026,o1 39 (.mv (.t 38)) 1027, .mk (.some 40) (.faddr 2 (.t 3)) (.some (39, .true)) 1028 .none .false [] .false, .mk (.some 41) (.load 1 .false (.t 40)) (.some (39,
 .true)) 1029 .none .false [] .false, .mk (.some 42) (.faddr 3 (.t 3)) (.some (39, .true)) 1030 .none .false [] .false, .mk (.some 43) (.load 1 .false (.t 42)) (.some (39, .true))
 1031 .none .false [] .false, .mk (.some 44) (.len (.t 43)) (.some (39, .true)) 1032 .none .false [] .false, .mk (.some 45) (.bin .add (.t 41) (.t 44)) (.some (39, .true)) 1033
 .none .false [] .false, .mk (.some 46) (.bin .gtr (.t 45) (.k (.int .i64 0))) (.some (39, .true)) 1034 .none .false [] .false,o1 47 (.pick (.t 39) (.t 46) (.k (.bool .false))) 1035,o1 48 (.call 90 [.t 47]) 1036]) (.seq (.reg 1037 6 [o1 49 (.mv (.t 0)) 1037,o1 50 (.nilc (.t 49)) 1038,o1 51 (.faddr 4 (.t 50)) 1039,o1 52 (.load 1 .false (.t 51)) 1040,o1 53 (.bin .add (.t 52) (.k (.int .i64 1))) 1041,o1 5 (.mv (.t 53)) 1042]) (.seq (.reg 1043 1 [o1 6 (.mv (.k (.int .i64 0))) 1043]) (.seq (.seq (.reg 1044 3 [o1 54 (.faddr 2 (.t 3)) 1044,o1 55 (.load 1 .false (.t 54)) 1045,o1 56 (.bin .gtr (.t 55) (.k (.int .i64 0))) 1046]) (.cond (.t 56) (.reg 1047 6 [o1 57 (.mv (.t 4)) 1047,o1 58 (.faddr 1 (.t 3)) 1048,o1 59 (.load 1 .false (.t 58)) 1049,o1 60 (.iaddr 1 (.t 57) (.t 59)) 1050,o1 61 (.load 1 .false (.t 60)) 1051,o1 6 (.mv (.t 61)) 1052]) (.seq (.reg 1053 3 [o1 62 (.faddr 1 (.t 3)) 1053,o1 63 (.load 1 .false (.t 62)) 1054,o1 64 (.bin .gtr (.t 63) (.k (.int .i64 0))) 1055]) (.cond (.t 64) (.reg 1056 8 [o1 65 (.mv (.t 4)) 1056,o1 66 (.faddr 1 (.t 3)) 1057,o1 67 (.load 1 .false (.t 66)) 1058,o1 68 (.bin .sub (.t 67) (.k (.int .i64 1))) 1059,o1 69 (.iaddr 1 (.t 65) (.t 68)) 1060,o1 70 (.load 1 .false (.t 69)) 1061,o1 71 (.bin .add (.t 70) (.k (.int .i64 1))) 1062,o1 6 (.mv (.t 71)) 1063]) .skip)))) (.seq (.seq (.reg 1064 11 [o1 72 (.mv (.t 4)) 1064,o1 73 (.faddr 1 (.t 3)) 1065,o1 74 (.load 1 .false (.t 73)) 1066,o1 75 (.faddr 1 (.t 3)) 1067,o1 76 (.load 1 .false (.t 75)) 1068,o1 77 (.faddr 2 (.t 3)) 1069,o1 78 (.load 1 .false (.t 77)) 1070,o1 79 (.bin .add (.t 76) (.t 78)) 1071,o1 80 (.slc 1 (.t 72) (.some (.t 74)) (.some (.t 79)) .none) 1072,o1 81 (.len (.t 80)) 1073,o1 82 (.mv (.k (.int .i64 0))) 1074]) (.block 0 (.loop (.seq (.reg 1075 1 [o1 83 (.bin .lss (.t 82) (.t 81)) 1075]) (.seq (.cond (.t 83) .skip (.exit 0)) (.seq (.block 1 (.seq (.reg 1076 3 [o1 84 (.iaddr 1 (.t 80) (.t 82)) 1076,o1 85 (.load 1 .false (.t 84)) 1077,o1 8 (.mv (.t 85)) 1078]) (.reg 1079 11 [o1 86 (.mv (.t 0)) 1079,o1 87 (.mv (.t 0)) 1080,o1 88 (.nilc (.t 87)) 1081,o1 89 (.faddr 2 (.t 88)) 1082,o1 90 (.load 1 .false (.t 89)) 1083,o1 91 (.mv (.t 8)) 1084,o1 92 (.iaddr 4 (.t 90) (.t 91)) 1085,o1 93 (.load 4 .true (.t 92)) 1086,o1 94 (.call 91 [.t 86, .t 93]) 1087,o1 95 (.un .not (.t 94)) 1088,o1 96 (.call 90 [.t 95]) 1089]))) (.reg 1090 2 [o1 97 (.bin .add (.t 82) (.k (.int .i64 1))) 1090,o1 82 (.mv (.t 97)) 1091]))))))) (.seq (.seq (.reg 1092 11 [o1 98 (.mv (.t 4)) 1092,o1 99 (.faddr 1 (.t 3)) 1093,o1 100 (.load 1 .false (.t 99)) 1094,o1 101 (.faddr 1 (.t 3)) 1095,o1 102 (.load 1 .false (.t 101)) 1096,o1 103 (.faddr 2 (.t 3)) 1097,o1 104 (.load 1 .false (.t 103)) 1098,o1 105 (.bin .add (.t 102) (.t 104)) 1099,o1 106 (.slc 1 (.t 98) (.some (.t 100)) (.some (.t 105)) .none) 1100,o1 107 (.len (.t 106)) 1101,o1 108 (.mv (.k (.int .i64 0))) 1102])
 (.block 2 (.loop (.seq (.reg 1103 1 [o1 109 (.bin .lss (.t 108) (.t 107)) 1103]) (.seq (.cond (.t 109) .skip (.exit 2)) (.seq (.block 3 (.seq
 (.reg 1104 3 [o1 110 (.iaddr 1 (.t 106) (.t 108)) 1104,o1 111 (.load 1 .false (.t 110)) 1105,o1 10 (.mv (.t 111)) 1106]) (.reg 1107 9 [o1 112 (.mv (.t 0)) 1107,o1 113 (.nilc (.t 112)) 1108,o1 114 (.faddr 2 (.t 113)) 1109,o1 115 (.load 1 .false (.t 114)) 1110,
 o1 116 (.mv (.t 10)) 1111,o1 117 (.mv (.t 5)) 1112,o1 118 (.iaddr 4 (.t 115) (.t 116)) 1113,o1 119 (.faddr 3 (.t 118)) 1114,o2 (.store 1 (.t 119) (.t 117)) 1115])))
 (.reg 1116 2 [o1 120 (.bin .add (.t 108) (.k (.int .i64 1))) 1116,o1 108 (.mv (.t 120)) 1117])))))))
 (.seq (.reg 1118 1 [o1 11 (.mv (.k (.slice .none 0 0))) 1118]) (.seq (.seq (.reg 1119 4 [o1 121 (.faddr 3 (.t 3)) 1119,o1 122 (.load 1 .false (.t 121)) 1120,o1 123 (.len (.t 122)) 1121,o1 124 (.mv (.k (.int .i64 0))) 1122]) (.block 4 (.loop (.seq (.reg 1123 1 [o1 125 (.bin .lss (.t 124) (.t 123)) 1123])
 (.seq (.cond (.t 125) .skip (.exit 4)) (.seq (.block 5 (.seq (.reg 1124 3 [o1 126 (.iaddr 1 (.t 122) (.t 124)) 1124,o1 127 (.load 1 .false (.t 126)) 1125,o1 13 (.mv (.t 127)) 1126]) (.reg 1127 8 [o1 128 (.mv (.t 11)) 1127,o1 129 (.mv (.t 13)) 1128,o1 130 (.mv (.t 5)) 1129, .mk (.some 131) (.bld [(0,1),
 (1,1),(2,1)] [.string (ByteArray.mk (Array.mk [])), .int .i64 0, .int .i64 0] [(0, .t 129),(1, .k (.int .i64 (-1))),(2, .t 130)]) .none 1130 .none .false [] .false, .mk
 (.some 132) (.bld [(0,3),(3,1)] [.string (ByteArray.mk (Array.mk [])), .int .i64 0, .int .i64 0, .int .i64 0] [(0, .t 131),(1, .k (.int .i64 0))]) .none 1131 .none .false []
 .false, .mk (.some 133) (.bsl 102 4 1 [.string (ByteArray.mk (Array.mk [])), .int .i64 0, .int .i64 0, .int .i64 0] [(0, .t 132)]) .none 1132 .none .false [] .false,o1 134 (.app 102 4 40 (.t 128) (.t 133)) 1133,o1 11 (.mv (.t 134)) 1134]))) (.reg 1135 2 [o1 135 (.bin .add (.t 124) (.k (.int .i64 1))) 1135,o1 124 (.mv (.t 135)) 1136]))))))) (.seq (.reg 1137 4 [o1 136 (.mv (.t 0)) 1137,o1 137 (.mv (.t 6)) 1138,o1 138 (.mv (.t 11)) 1139,
 o1 139 (.call 92 [.t 136, .t 137, .t 138]) 1140]) (.reg 1141 16 [o1 140 (.mv (.t 0)) 1141,o1 141 (.mv (.t 0)) 1142,o1 142 (.mv (.t 5)) 1143,o1 143 (.mv (.t 0)) 1144,o1 144 (.nilc (.t 143)) 1145,o1 145 (.faddr 3 (.t 144)) 1146,o1 146 (.load 1 .false (.t 145)) 1147,o1 147 (.mv (.t 5)) 1148,o1 148 (.bsl 3 1 1 [.int .i64 0] [(0, .t 147)]) 1149,o1 149 (.apph 3 1 8 (.t 146) (.t 148)) 1150,o1 150 (.nilc (.t 140)) 1151,o1 151 (.faddr 4 (.t 150)) 1152,o2 (.store 1 (.t 151) (.t 142)) 1153,o1 152 (.nilc (.t 141)) 1154,o1 153 (.faddr 3 (.t 152)) 1155,o2 (.store 1 (.t 153) (.t 149)) 1156])))))))))))
def rs65:List IRes:=[]
set_option maxRecDepth 100000 in
theorem comp65:CompAt Tryz.prog 65 1000 ir65 rs65 154:=⟨⟨_,_,1157,Tryz.func65,rfl,by kernel_rfl,by kernel_rfl,rfl⟩⟩
theorem body65:HasBody Tryz.prog 65:=hasBody_of (by kernel_rfl)
def ir69:IC :=
 .seq (.reg 1000 1 [o1 3 (.box 76 (.t 1)) 1000]) (.seq (.reg 1001 5 [o1 5 (.mv (.t 0)) 1001,o1 6 (.faddr 0 (.t 3)) 1002,o1 7 (.load 1 .false (.t 6)) 1003,o1 8 (.call 57 [.t 5, .t 7]) 1004,o1 9 (.call 90 [.t 8]) 1005]) (.seq (.reg 1006 10 [o1 10 (.mv (.t 0)) 1006,o1 11 (.mv (.t 0)) 1007,o1 12 (.nilc (.t 11)) 1008,o1 13 (.faddr 2 (.t 12)) 1009,o1 14 (.load 1 .false (.t 13)) 1010,o1 15 (.mkf 94 [] [.t 3]) 1011,o1 16 (.call 93 [.t 14, .t 15]) 1012,o1 17 (.nilc (.t 10)) 1013,o1 18 (.faddr 2 (.t 17)) 1014,o2 (.store 1 (.t 18) (.t 16)) 1015]) (.seq (.seq (.reg 1016 6 [o1 19 (.mv (.t 0)) 1016,
 o1 20 (.nilc (.t 19)) 1017,o1 21 (.faddr 2 (.t 20)) 1018,o1 22 (.load 1 .false (.t 21)) 1019,o1 23 (.len (.t 22)) 1020,o1 24 (.mv (.k (.int .i64 0))) 1021])
 (.block 0 (.loop (.seq (.reg 1022 1 [o1 25 (.bin .lss (.t 24) (.t 23)) 1022]) (.seq (.cond (.t 25) .skip (.exit 0)) (.seq (.block 1 (.seq
 (.reg 1023 2 [o1 26 (.mv (.t 24)) 1023,o1 4 (.mv (.t 26)) 1024]) (.seq (.draw 1025 11 [] [] [o3 27 (.mv (.t 0)) 1025,o3 28 (.nilc (.t 27)) 1026,o3 29 (.faddr 2 (.t 28)) 1027,o3 30 (.load 1 .false (.t 29)) 1028,o3 31 (.mv (.t 4)) 1029,o3 32 (.iaddr 4 (.t 30) (.t 31)) 1030,o3 33 (.faddr 3 (.t 32)) 1031,o3 34 (.load 1 .false (.t 33)) 1032,o3 35 (.faddr 0 (.t 3)) 1033,o3 36 (.load 1 .false (.t 35)) 1034,o3 37 (.bin .eql (.t 34) (.t 36)) 1035]) (.cond (.t 37) (.reg 1036 8 [o1 38 (.mv (.t 0)) 1036,o1 39 (.nilc (.t 38)) 1037,o1 40 (.faddr 2 (.t 39)) 1038,o1 41 (.load 1 .false (.t 40)) 1039,o1 42 (.mv (.t 4)) 1040,o1 43 (.iaddr 4 (.t 41) (.t 42)) 1041,o1 44 (.faddr 3 (.t 43)) 1042,o2 (.store 1 (.t 44) (.k (.int .i64 0))) 1043])
 .skip)))) (.reg 1044 2 [o1 45 (.bin .add (.t 24) (.k (.int .i64 1))) 1044,o1 24 (.mv (.t 45)) 1045]))))))) (.reg 1046 10 [o1 46 (.mv (.t 0)) 1046,o1 47 (.mv (.t 0)) 1047,o1 48 (.nilc (.t 47)) 1048,o1 49 (.faddr 3 (.t 48)) 1049,o1 50 (.load 1 .false (.t 49)) 1050,o1 51 (.mkf 95 [] [.t 3]) 1051,o1 52 (.call 55 [.t 50, .t 51]) 1052,o1 53 (.nilc (.t 46)) 1053,o1 54 (.faddr 3 (.t 53)) 1054,o2 (.store 1 (.t 54) (.t 52)) 1055]))))
def rs69:List IRes:=[]
set_option maxRecDepth 100000 in
theorem comp69:CompAt Tryz.prog 69 1000 ir69 rs69 55:=⟨⟨_,_,1056,Tryz.func69,rfl,by kernel_rfl,by kernel_rfl,rfl⟩⟩
theorem body69:HasBody Tryz.prog 69:=hasBody_of (by kernel_rfl)
def ir75:IC :=
 .seq (.reg 1000 2 [o1 2 (.box 107 (.t 0)) 1000,o1 3 (.mv (.k (.bool .false))) 1001]) (.seq (.reg 1002 15
 [o1 5 (.faddr 0 (.t 2)) 1002,o1 6 (.load 1 .false (.t 5)) 1003,o1 7 (.call 76 [.t 6]) 1004,o1 8 (.mv (.t 7)) 1005, .mk (.some 9) (.faddr 1 (.t 2)) (.some (8, .true)) 1006 .none .false [] .false, .mk
 (.some 10) (.load 1 .false (.t 9)) (.some (8, .true)) 1007 .none .false [] .false, .mk (.some 11) (.load 1 .false (.t 1)) (.some (8, .true)) 1008 .none .false [] .false, .mk
 (.some 12) (.call 77 [.t 10, .t 11, .k (.int .i64 36000)]) (.some (8, .true)) 1009 .none .false [] .false,o1 13 (.pick (.t 8) (.t 12) (.k (.bool .false))) 1010,o1 14 (.mv (.t 13)) 1011, .mk (.some 15) (.faddr 2 (.t 2)) (.some (14, .true)) 1012 .none .false [] .false, .mk
 (.some 16) (.load 1 .false (.t 15)) (.some (14, .true)) 1013 .none .false [] .false, .mk (.some 17) (.call 77 [.t 16, .k (.int .i64 0), .k (.int .i64 99)]) (.some (14, .true))
 1014 .none .false [] .false,o1 18 (.pick (.t 14) (.t 17) (.k (.bool .false))) 1015,o1 4 (.mv (.t 18)) 1016]) (.seq (.reg 1017 3 [o1 19 (.faddr 1 (.t 2)) 1017,o1 20 (.load 1 .false (.t 19)) 1018,o2 (.store 1 (.t 1) (.t 20)) 1019]) (.seq (.reg 1020 2 [o1 21 (.mv (.t 4)) 1020,o1 3 (.mv (.t 21)) 1021]) .ret)))
def rs75:List IRes:=[.tmp 3]
set_option maxRecDepth 100000 in
theorem comp75:CompAt Tryz.prog 75 1000 ir75 rs75 22:=⟨⟨_,_,1022,Tryz.func75,rfl,by kernel_rfl,by kernel_rfl,rfl⟩⟩
theorem body75:HasBody Tryz.prog 75:=hasBody_of (by kernel_rfl)
def ir76:IC :=
 .seq (.reg 1000 1 [o1 2 (.mv (.k (.bool .false))) 1000]) (.seq (.reg 1001 9 [o1 3 (.mv (.t 0)) 1001,o1 4 (.lenS (.t 3)) 1002,o1 5 (.call 77 [.t 4, .k (.int .i64 1), .k (.int .i64 32)]) 1003,o1 6 (.mv (.t 5)) 1004, .mk (.some 7) (.mv (.t 0)) (.some (6, .true)) 1005 .none .false [] .false, .mk (.some 8) (.s2b 5 (.t 7)) (.some (6, .true)) 1006
 .none .false [] .false, .mk (.some 9) (.call 98 [.t 8, .f 99]) (.some (6, .true)) 1007 .none .false [] .false,o1 10 (.pick (.t 6) (.t 9) (.k (.bool .false))) 1008,o1 2 (.mv (.t 10)) 1009]) .ret)
def rs76:List IRes:=[.tmp 2]
set_option maxRecDepth 100000 in
theorem comp76:CompAt Tryz.prog 76 1000 ir76 rs76 11:=⟨⟨_,_,1010,Tryz.func76,rfl,by kernel_rfl,by kernel_rfl,rfl⟩⟩
theorem body76:HasBody Tryz.prog 76:=hasBody_of (by kernel_rfl)
def ir78:IC :=
 .seq (.reg 1000 1 [o1 4 (.mv (.k (.bool .false))) 1000]) (.seq (.reg 1001 9 [o1 6 (.mv (.t 0)) 1001,o1 7 (.load 1 .false (.t 1)) 1002,o1 8 (.bin .add (.t 7) (.k (.int .i64 1))) 1003,o1 9 (.faddr 0 (.t 2)) 1004,o1 10 (.load 1 .false (.t 9)) 1005,o1 11 (.len (.t 10)) 1006,o1 12 (.bin .sub (.t 11) (.k (.int .i64 1))) 1007,o1 13 (.call 77 [.t 6, .t 8, .t 12]) 1008,
 o1 5 (.mv (.t 13)) 1009]) (.seq (.reg 1010 2 [o1 14 (.mv (.t 0)) 1010,o2 (.store 1 (.t 1) (.t 14)) 1011]) (.seq (.reg 1012 2 [o1 15 (.mv (.t 5)) 1012,o1 4 (.mv (.t 15)) 1013]) .ret)))
def rs78:List IRes:=[.tmp 4]
set_option maxRecDepth 100000 in
theorem comp78:CompAt Tryz.prog 78 1000 ir78 rs78 16:=⟨⟨_,_,1014,Tryz.func78,rfl,by kernel_rfl,by kernel_rfl,rfl⟩⟩
theorem body78:HasBody Tryz.prog 78:=hasBody_of (by kernel_rfl)
def ir79:IC :=
 .seq (.reg 1000 2 [o1 3 (.box 137 (.t 1)) 1000,o1 4 (.mv (.k (.bool .false))) 1001]) (.seq (.reg 1002 5
 [o1 5 (.mv (.t 0)) 1002,o1 6 (.mkf 101 [] [.t 3]) 1003,o1 7 (.call 100 [.t 5, .t 6]) 1004,o1 8 (.un .not (.t 7)) 1005,o1 4 (.mv (.t 8)) 1006]) .ret)
def rs79:List IRes:=[.tmp 4]
set_option maxRecDepth 100000 in
theorem comp79:CompAt Tryz.prog 79 1000 ir79 rs79 9:=⟨⟨_,_,1007,Tryz.func79,rfl,by kernel_rfl,by kernel_rfl,rfl⟩⟩
theorem body79:HasBody Tryz.prog 79:=hasBody_of (by kernel_rfl)
def ir80:IC :=
 .seq (.reg 1000 2 [o1 3 (.box 118 (.t 1)) 1000,o1 4 (.mv (.k (.bool .false))) 1001]) (.seq (.reg 1002 5
 [o1 5 (.mv (.t 0)) 1002,o1 6 (.mkf 103 [] [.t 3]) 1003,o1 7 (.call 102 [.t 5, .t 6]) 1004,o1 8 (.un .not (.t 7)) 1005,o1 4 (.mv (.t 8)) 1006]) .ret)
def rs80:List IRes:=[.tmp 4]
set_option maxRecDepth 100000 in
theorem comp80:CompAt Tryz.prog 80 1000 ir80 rs80 9:=⟨⟨_,_,1007,Tryz.func80,rfl,by kernel_rfl,by kernel_rfl,rfl⟩⟩
theorem body80:HasBody Tryz.prog 80:=hasBody_of (by kernel_rfl)
def ir81:IC :=
 .seq (.reg 1000 1 [o1 4 (.mv (.k (.int .i64 0))) 1000]) (.seq (.seq (.reg 1001 3 [o1 6 (.mv (.t 0)) 1001,
 o1 7 (.len (.t 6)) 1002,o1 8 (.mv (.k (.int .i64 0))) 1003]) (.block 0 (.loop (.seq (.reg 1004 1 [o1 9 (.bin .lss (.t 8) (.t 7)) 1004]) (.seq (.cond (.t 9) .skip (.exit 0)) (.seq (.block 1 (.seq (.reg 1005 2 [o1 10 (.mv (.t 8)) 1005,o1 5 (.mv (.t 10)) 1006]) (.seq (.reg 1007 6 [o1 11 (.mv (.t 1)) 1007,o1 12 (.mv (.t 0)) 1008,o1 13 (.mv (.t 5)) 1009,o1 14 (.iaddr 1 (.t 12) (.t 13)) 1010,o1 15 (.load 1 .false (.t 14)) 1011,o1 16 (.callv (.t 11) [.t 15]) 1012])
 (.cond (.t 16) (.seq (.reg 1013 2 [o1 17 (.mv (.t 5)) 1013,o1 4 (.mv (.t 17)) 1014]) .ret) .skip))))
 (.reg 1015 2 [o1 18 (.bin .add (.t 8) (.k (.int .i64 1))) 1015,o1 8 (.mv (.t 18)) 1016]))))))) (.seq
 (.reg 1017 1 [o1 4 (.mv (.k (.int .i64 (-1)))) 1017]) .ret))
def rs81:List IRes:=[.tmp 4]
set_option maxRecDepth 100000 in
theorem comp81:CompAt Tryz.prog 81 1000 ir81 rs81 19:=⟨⟨_,_,1018,Tryz.func81,rfl,by kernel_rfl,by kernel_rfl,rfl⟩⟩
theorem body81:HasBody Tryz.prog 81:=hasBody_of (by kernel_rfl)
def ir83:IC :=
 .seq (.reg 1000 2 [o1 3 (.box 142 (.t 1)) 1000,o1 4 (.mv (.k (.bool .false))) 1001]) (.seq (.reg 1002 5
 [o1 5 (.mv (.t 0)) 1002,o1 6 (.mkf 106 [] [.t 3]) 1003,o1 7 (.call 105 [.t 5, .t 6]) 1004,o1 8 (.un .not (.t 7)) 1005,o1 4 (.mv (.t 8)) 1006]) .ret)
def rs83:List IRes:=[.tmp 4]
set_option maxRecDepth 100000 in
theorem comp83:CompAt Tryz.prog 83 1000 ir83 rs83 9:=⟨⟨_,_,1007,Tryz.func83,rfl,by kernel_rfl,by kernel_rfl,rfl⟩⟩
theorem body83:HasBody Tryz.prog 83:=hasBody_of (by kernel_rfl)
def ir84:IC :=
 .seq (.reg 1000 2 [o1 2 (.box 102 (.t 0)) 1000,o1 3 (.mv (.k (.bool .false))) 1001]) (.seq (.reg 1002 11
 [o1 4 (.faddr 0 (.t 2)) 1002,o1 5 (.faddr 2 (.t 4)) 1003,o1 6 (.load 1 .false (.t 5)) 1004,o1 7 (.load 1 .false (.t 1)) 1005,o1 8 (.bin .neq (.t 6) (.t 7)) 1006,
 o1 9 (.mv (.t 8)) 1007, .mk (.some 10) (.faddr 3 (.t 2)) (.some (9, .false)) 1008 .none .false [] .false, .mk (.some 11) (.load 1 .false (.t
 10)) (.some (9, .false)) 1009 .none .false [] .false, .mk (.some 12) (.bin .eql (.t 11) (.k (.int .i64 0))) (.some (9, .false)) 1010 .none .false [] .false,o1 13 (.pick (.t 9) (.k (.bool .true)) (.t 12)) 1011,o1 3 (.mv (.t 13)) 1012]) .ret)
def rs84:List IRes:=[.tmp 3]
set_option maxRecDepth 100000 in
theorem comp84:CompAt Tryz.prog 84 1000 ir84 rs84 14:=⟨⟨_,_,1013,Tryz.func84,rfl,by kernel_rfl,by kernel_rfl,rfl⟩⟩
theorem body84:HasBody Tryz.prog 84:=hasBody_of (by kernel_rfl)
def ir85:IC :=
 .seq (.reg 1000 2 [o1 3 (.box 116 (.t 1)) 1000,o1 4 (.mv (.k (.bool .false))) 1001]) (.seq (.reg 1002 5
 [o1 5 (.mv (.t 0)) 1002,o1 6 (.mkf 108 [] [.t 3]) 1003,o1 7 (.call 107 [.t 5, .t 6]) 1004,o1 8 (.un .not (.t 7)) 1005,o1 4 (.mv (.t 8)) 1006]) .ret)
def rs85:List IRes:=[.tmp 4]
set_option maxRecDepth 100000 in
theorem comp85:CompAt Tryz.prog 85 1000 ir85 rs85 9:=⟨⟨_,_,1007,Tryz.func85,rfl,by kernel_rfl,by kernel_rfl,rfl⟩⟩
theorem body85:HasBody Tryz.prog 85:=hasBody_of (by kernel_rfl)
def ir86:IC :=
 .seq (.reg 1000 1 [o1 4 (.mv (.k (.bool .false))) 1000]) (.seq (.reg 1001 5 [o1 5 (.mv (.t 0)) 1001,o1 6 (.mv (.t 1)) 1002,o1 7 (.call 109 [.t 5, .t 6]) 1003,o1 8 (.bin .geq (.t 7) (.k (.int .i64 0))) 1004,o1 4 (.mv (.t 8)) 1005]) .ret)
def rs86:List IRes:=[.tmp 4]
set_option maxRecDepth 100000 in
theorem comp86:CompAt Tryz.prog 86 1000 ir86 rs86 9:=⟨⟨_,_,1006,Tryz.func86,rfl,by kernel_rfl,by kernel_rfl,rfl⟩⟩
theorem body86:HasBody Tryz.prog 86:=hasBody_of (by kernel_rfl)
def ir87:IC :=
 .seq (.reg 1000 2 [o1 2 (.box 119 (.t 0)) 1000,o1 3 (.mv (.k (.bool .false))) 1001]) (.seq (.reg 1002 5
 [o1 4 (.load 1 .false (.t 1)) 1002,o1 5 (.load 2 .true (.t 2)) 1003,o1 6 (.callv (.t 4) [.t 5]) 1004,o1 7 (.un .not (.t 6)) 1005,o1 3 (.mv (.t 7)) 1006]) .ret)
def rs87:List IRes:=[.tmp 3]
set_option maxRecDepth 100000 in
theorem comp87:CompAt Tryz.prog 87 1000 ir87 rs87 8:=⟨⟨_,_,1007,Tryz.func87,rfl,by kernel_rfl,by kernel_rfl,rfl⟩⟩
theorem body87:HasBody Tryz.prog 87:=hasBody_of (by kernel_rfl)
def ir91:IC :=
 .seq (.reg 1000 2 [o1 3 (.box 102 (.t 1)) 1000,o1 4 (.mv (.k (.bool .false))) 1001]) (.seq (.draw 1002
 10 [3,0] [] [o3 5 (.mv (.t 0)) 1002,o3 6 (.nilc (.t 5)) 1003,o3 7 (.faddr 0 (.t 6)) 1004,o3 8 (.faddr 1 (.t 7)) 1005,o3 9 (.load 1 .false (.t 8)) 1006,o3 10 (.faddr 0 (.t 3)) 1007,o3 11 (.faddr 1 (.t 10)) 1008,o3 12 (.load 1 .false (.t 11)) 1009,o3 13 (.call 82 [.t 9, .t 12]) 1010, .mk (.some 4) (.mv (.t 13)) .none 1011 (.some
 [1010]) .true [] .false]) .ret)
def rs91:List IRes:=[.tmp 4]
set_option maxRecDepth 100000 in
theorem comp91:CompAt Tryz.prog 91 1000 ir91 rs91 14:=⟨⟨_,_,1012,Tryz.func91,rfl,by kernel_rfl,by kernel_rfl,rfl⟩⟩
theorem body91:HasBody Tryz.prog 91:=hasBody_of (by kernel_rfl)
def ir92:IC :=
 .reg 1000 11 [o1 6 (.mv (.t 0)) 1000,o1 7 (.mv (.t 0)) 1001,o1 8 (.nilc (.t 7)) 1002,o1 9 (.faddr 2 (.t 8)) 1003,o1 10 (.load 1 .false (.t 9)) 1004,o1 11 (.mv (.t 1)) 1005,o1 12 (.mv (.t 2)) 1006,o1 13 (.call 110 [.t 10, .t 11, .t 12]) 1007,o1 14 (.nilc (.t 6)) 1008,o1 15 (.faddr 2 (.t 14)) 1009,o2 (.store 1 (.t 15) (.t 13)) 1010]
def rs92:List IRes:=[]
set_option maxRecDepth 100000 in
theorem comp92:CompAt Tryz.prog 92 1000 ir92 rs92 16:=⟨⟨_,_,1011,Tryz.func92,rfl,by kernel_rfl,by kernel_rfl,rfl⟩⟩
theorem body92:HasBody Tryz.prog 92:=hasBody_of (by kernel_rfl)
def ir94:IC :=
 .seq (.reg 1000 2 [o1 2 (.box 102 (.t 0)) 1000,o1 3 (.mv (.k (.bool .false))) 1001]) (.seq (.reg 1002 7
 [o1 4 (.faddr 0 (.t 2)) 1002,o1 5 (.faddr 2 (.t 4)) 1003,o1 6 (.load 1 .false (.t 5)) 1004,o1 7 (.faddr 0 (.t 1)) 1005,o1 8 (.load 1 .false (.t 7)) 1006,o1 9 (.bin .eql (.t 6) (.t 8)) 1007,o1 3 (.mv (.t 9)) 1008]) .ret)
def rs94:List IRes:=[.tmp 3]
set_option maxRecDepth 100000 in
theorem comp94:CompAt Tryz.prog 94 1000 ir94 rs94 10:=⟨⟨_,_,1009,Tryz.func94,rfl,by kernel_rfl,by kernel_rfl,rfl⟩⟩
theorem body94:HasBody Tryz.prog 94:=hasBody_of (by kernel_rfl)
def ir95:IC :=
 .seq (.reg 1000 1 [o1 3 (.mv (.k (.bool .false))) 1000]) (.seq (.reg 1001 5 [o1 4 (.mv (.t 0)) 1001,o1 5 (.faddr 0 (.t 1)) 1002,o1 6 (.load 1 .false (.t 5)) 1003,o1 7 (.bin .eql (.t 4) (.t 6)) 1004,o1 3 (.mv (.t 7)) 1005]) .ret)
def rs95:List IRes:=[.tmp 3]
set_option maxRecDepth 100000 in
theorem comp95:CompAt Tryz.prog 95 1000 ir95 rs95 8:=⟨⟨_,_,1006,Tryz.func95,rfl,by kernel_rfl,by kernel_rfl,rfl⟩⟩
theorem body95:HasBody Tryz.prog 95:=hasBody_of (by kernel_rfl)
def ir98:IC :=
 .seq (.reg 1000 2 [o1 3 (.box 151 (.t 1)) 1000,o1 4 (.mv (.k (.bool .false))) 1001]) (.seq (.reg 1002 5
 [o1 5 (.mv (.t 0)) 1002,o1 6 (.mkf 115 [] [.t 3]) 1003,o1 7 (.call 114 [.t 5, .t 6]) 1004,o1 8 (.un .not (.t 7)) 1005,o1 4 (.mv (.t 8)) 1006]) .ret)
def rs98:List IRes:=[.tmp 4]
set_option maxRecDepth 100000 in
theorem comp98:CompAt Tryz.prog 98 1000 ir98 rs98 9:=⟨⟨_,_,1007,Tryz.func98,rfl,by kernel_rfl,by kernel_rfl,rfl⟩⟩
theorem body98:HasBody Tryz.prog 98:=hasBody_of (by kernel_rfl)
def ir100:IC :=
 .seq (.reg 1000 1 [o1 4 (.mv (.k (.bool .false))) 1000]) (.seq (.reg 1001 5 [o1 5 (.mv (.t 0)) 1001,o1 6 (.mv (.t 1)) 1002,o1 7 (.call 116 [.t 5, .t 6]) 1003,o1 8 (.bin .geq (.t 7) (.k (.int .i64 0))) 1004,o1 4 (.mv (.t 8)) 1005]) .ret)
def rs100:List IRes:=[.tmp 4]
set_option maxRecDepth 100000 in
theorem comp100:CompAt Tryz.prog 100 1000 ir100 rs100 9:=⟨⟨_,_,1006,Tryz.func100,rfl,by kernel_rfl,by kernel_rfl,rfl⟩⟩
theorem body100:HasBody Tryz.prog 100:=hasBody_of (by kernel_rfl)
def ir101:IC :=
 .seq (.reg 1000 2 [o1 2 (.box 107 (.t 0)) 1000,o1 3 (.mv (.k (.bool .false))) 1001]) (.seq (.reg 1002 5
 [o1 4 (.load 1 .false (.t 1)) 1002,o1 5 (.load 3 .true (.t 2)) 1003,o1 6 (.callv (.t 4) [.t 5]) 1004,o1 7 (.un .not (.t 6)) 1005,o1 3 (.mv (.t 7)) 1006]) .ret)
def rs101:List IRes:=[.tmp 3]
set_option maxRecDepth 100000 in
theorem comp101:CompAt Tryz.prog 101 1000 ir101 rs101 8:=⟨⟨_,_,1007,Tryz.func101,rfl,by kernel_rfl,by kernel_rfl,rfl⟩⟩
theorem body101:HasBody Tryz.prog 101:=hasBody_of (by kernel_rfl)
def ir102:IC :=
 .seq (.reg 1000 1 [o1 4 (.mv (.k (.bool .false))) 1000]) (.seq (.reg 1001 5 [o1 5 (.mv (.t 0)) 1001,o1 6 (.mv (.t 1)) 1002,o1 7 (.call 81 [.t 5, .t 6]) 1003,o1 8 (.bin .geq (.t 7) (.k (.int .i64 0))) 1004,o1 4 (.mv (.t 8)) 1005]) .ret)
def rs102:List IRes:=[.tmp 4]
set_option maxRecDepth 100000 in
theorem comp102:CompAt Tryz.prog 102 1000 ir102 rs102 9:=⟨⟨_,_,1006,Tryz.func102,rfl,by kernel_rfl,by kernel_rfl,rfl⟩⟩
theorem body102:HasBody Tryz.prog 102:=hasBody_of (by kernel_rfl)
def ir103:IC :=
 .seq (.reg 1000 1 [o1 3 (.mv (.k (.bool .false))) 1000]) (.seq (.reg 1001 5 [o1 4 (.load 1 .false (.t 1)) 1001,o1 5 (.mv (.t 0)) 1002,o1 6 (.callv (.t 4) [.t 5]) 1003,o1 7 (.un .not (.t 6)) 1004,o1 3 (.mv (.t 7)) 1005]) .ret)
def rs103:List IRes:=[.tmp 3]
set_option maxRecDepth 100000 in
theorem comp103:CompAt Tryz.prog 103 1000 ir103 rs103 8:=⟨⟨_,_,1006,Tryz.func103,rfl,by kernel_rfl,by kernel_rfl,rfl⟩⟩
theorem body103:HasBody Tryz.prog 103:=hasBody_of (by kernel_rfl)
def ir105:IC :=
 .seq (.reg 1000 1 [o1 4 (.mv (.k (.bool .false))) 1000]) (.seq (.reg 1001 5 [o1 5 (.mv (.t 0)) 1001,o1 6 (.mv (.t 1)) 1002,o1 7 (.call 111 [.t 5, .t 6]) 1003,o1 8 (.bin .geq (.t 7) (.k (.int .i64 0))) 1004,o1 4 (.mv (.t 8)) 1005]) .ret)
def rs105:List IRes:=[.tmp 4]
set_option maxRecDepth 100000 in
theorem comp105:CompAt Tryz.prog 105 1000 ir105 rs105 9:=⟨⟨_,_,1006,Tryz.func105,rfl,by kernel_rfl,by kernel_rfl,rfl⟩⟩
theorem body105:HasBody Tryz.prog 105:=hasBody_of (by kernel_rfl)
def ir106:IC :=
 .seq (.reg 1000 2 [o1 2 (.box 102 (.t 0)) 1000,o1 3 (.mv (.k (.bool .false))) 1001]) (.seq (.reg 1002 5
 [o1 4 (.load 1 .false (.t 1)) 1002,o1 5 (.load 4 .true (.t 2)) 1003,o1 6 (.callv (.t 4) [.t 5]) 1004,o1 7 (.un .not (.t 6)) 1005,o1 3 (.mv (.t 7)) 1006]) .ret)
def rs106:List IRes:=[.tmp 3]
set_option maxRecDepth 100000 in
theorem comp106:CompAt Tryz.prog 106 1000 ir106 rs106 8:=⟨⟨_,_,1007,Tryz.func106,rfl,by kernel_rfl,by kernel_rfl,rfl⟩⟩
theorem body106:HasBody Tryz.prog 106:=hasBody_of (by kernel_rfl)
def ir107:IC :=
 .seq (.reg 1000 1 [o1 4 (.mv (.k (.bool .false))) 1000]) (.seq (.reg 1001 5 [o1 5 (.mv (.t 0)) 1001,o1 6 (.mv (.t 1)) 1002,o1 7 (.call 117 [.t 5, .t 6]) 1003,o1 8 (.bin .geq (.t 7) (.k (.int .i64 0))) 1004,o1 4 (.mv (.t 8)) 1005]) .ret)
def rs107:List IRes:=[.tmp 4]
set_option maxRecDepth 100000 in
theorem comp107:CompAt Tryz.prog 107 1000 ir107 rs107 9:=⟨⟨_,_,1006,Tryz.func107,rfl,by kernel_rfl,by kernel_rfl,rfl⟩⟩
theorem body107:HasBody Tryz.prog 107:=hasBody_of (by kernel_rfl)
def ir108:IC :=
 .seq (.reg 1000 1 [o1 3 (.mv (.k (.bool .false))) 1000]) (.seq (.reg 1001 5 [o1 4 (.load 1 .false (.t 1)) 1001,o1 5 (.mv (.t 0)) 1002,o1 6 (.callv (.t 4) [.t 5]) 1003,o1 7 (.un .not (.t 6)) 1004,o1 3 (.mv (.t 7)) 1005]) .ret)
def rs108:List IRes:=[.tmp 3]
set_option maxRecDepth 100000 in
theorem comp108:CompAt Tryz.prog 108 1000 ir108 rs108 8:=⟨⟨_,_,1006,Tryz.func108,rfl,by kernel_rfl,by kernel_rfl,rfl⟩⟩
theorem body108:HasBody Tryz.prog 108:=hasBody_of (by kernel_rfl)
def ir109:IC :=
 .seq (.reg 1000 1 [o1 4 (.mv (.k (.int .i64 0))) 1000]) (.seq (.seq (.reg 1001 3 [o1 6 (.mv (.t 0)) 1001,
 o1 7 (.len (.t 6)) 1002,o1 8 (.mv (.k (.int .i64 0))) 1003]) (.block 0 (.loop (.seq (.reg 1004 1 [o1 9 (.bin .lss (.t 8) (.t 7)) 1004]) (.seq (.cond (.t 9) .skip (.exit 0)) (.seq (.block 1 (.seq (.reg 1005 2 [o1 10 (.mv (.t 8)) 1005,o1 5 (.mv (.t 10)) 1006]) (.seq (.reg 1007 6 [o1 11 (.mv (.t 1)) 1007,o1 12 (.mv (.t 0)) 1008,o1 13 (.mv (.t 5)) 1009,o1 14 (.iaddr 2 (.t 12) (.t 13)) 1010,o1 15 (.load 2 .true (.t 14)) 1011,o1 16 (.callv (.t 11) [.t 15]) 1012])
 (.cond (.t 16) (.seq (.reg 1013 2 [o1 17 (.mv (.t 5)) 1013,o1 4 (.mv (.t 17)) 1014]) .ret) .skip))))
 (.reg 1015 2 [o1 18 (.bin .add (.t 8) (.k (.int .i64 1))) 1015,o1 8 (.mv (.t 18)) 1016]))))))) (.seq
 (.reg 1017 1 [o1 4 (.mv (.k (.int .i64 (-1)))) 1017]) .ret))
def rs109:List IRes:=[.tmp 4]
set_option maxRecDepth 100000 in
theorem comp109:CompAt Tryz.prog 109 1000 ir109 rs109 19:=⟨⟨_,_,1018,Tryz.func109,rfl,by kernel_rfl,by kernel_rfl,rfl⟩⟩
theorem body109:HasBody Tryz.prog 109:=hasBody_of (by kernel_rfl)
def ir111:IC :=
 .seq (.reg 1000 1 [o1 4 (.mv (.k (.int .i64 0))) 1000]) (.seq (.seq (.reg 1001 3 [o1 6 (.mv (.t 0)) 1001,
 o1 7 (.len (.t 6)) 1002,o1 8 (.mv (.k (.int .i64 0))) 1003]) (.block 0 (.loop (.seq (.reg 1004 1 [o1 9 (.bin .lss (.t 8) (.t 7)) 1004]) (.seq (.cond (.t 9) .skip (.exit 0)) (.seq (.block 1 (.seq (.reg 1005 2 [o1 10 (.mv (.t 8)) 1005,o1 5 (.mv (.t 10)) 1006]) (.seq (.reg 1007 6 [o1 11 (.mv (.t 1)) 1007,o1 12 (.mv (.t 0)) 1008,o1 13 (.mv (.t 5)) 1009,o1 14 (.iaddr 4 (.t 12) (.t 13)) 1010,o1 15 (.load 4 .true (.t 14)) 1011,o1 16 (.callv (.t 11) [.t 15]) 1012])
 (.cond (.t 16) (.seq (.reg 1013 2 [o1 17 (.mv (.t 5)) 1013,o1 4 (.mv (.t 17)) 1014]) .ret) .skip))))
 (.reg 1015 2 [o1 18 (.bin .add (.t 8) (.k (.int .i64 1))) 1015,o1 8 (.mv (.t 18)) 1016]))))))) (.seq
 (.reg 1017 1 [o1 4 (.mv (.k (.int .i64 (-1)))) 1017]) .ret))
def rs111:List IRes:=[.tmp 4]
set_option maxRecDepth 100000 in
theorem comp111:CompAt Tryz.prog 111 1000 ir111 rs111 19:=⟨⟨_,_,1018,Tryz.func111,rfl,by kernel_rfl,by kernel_rfl,rfl⟩⟩
theorem body111:HasBody Tryz.prog 111:=hasBody_of (by kernel_rfl)
def ir114:IC :=
 .seq (.reg 1000 1 [o1 4 (.mv (.k (.bool .false))) 1000]) (.seq (.reg 1001 5 [o1 5 (.mv (.t 0)) 1001,o1 6 (.mv (.t 1)) 1002,o1 7 (.call 131 [.t 5, .t 6]) 1003,o1 8 (.bin .geq (.t 7) (.k (.int .i64 0))) 1004,o1 4 (.mv (.t 8)) 1005]) .ret)
def rs114:List IRes:=[.tmp 4]
set_option maxRecDepth 100000 in
theorem comp114:CompAt Tryz.prog 114 1000 ir114 rs114 9:=⟨⟨_,_,1006,Tryz.func114,rfl,by kernel_rfl,by kernel_rfl,rfl⟩⟩
theorem body114:HasBody Tryz.prog 114:=hasBody_of (by kernel_rfl)
def ir115:IC :=
 .seq (.reg 1000 1 [o1 3 (.mv (.k (.bool .false))) 1000]) (.seq (.reg 1001 5 [o1 4 (.load 1 .false (.t 1)) 1001,o1 5 (.mv (.t 0)) 1002,o1 6 (.callv (.t 4) [.t 5]) 1003,o1 7 (.un .not (.t 6)) 1004,o1 3 (.mv (.t 7)) 1005]) .ret)
def rs115:List IRes:=[.tmp 3]
set_option maxRecDepth 100000 in
theorem comp115:CompAt Tryz.prog 115 1000 ir115 rs115 8:=⟨⟨_,_,1006,Tryz.func115,rfl,by kernel_rfl,by kernel_rfl,rfl⟩⟩
theorem body115:HasBody Tryz.prog 115:=hasBody_of (by kernel_rfl)
def ir116:IC :=
 .seq (.reg 1000 1 [o1 4 (.mv (.k (.int .i64 0))) 1000]) (.seq (.seq (.reg 1001 3 [o1 6 (.mv (.t 0)) 1001,
 o1 7 (.len (.t 6)) 1002,o1 8 (.mv (.k (.int .i64 0))) 1003]) (.block 0 (.loop (.seq (.reg 1004 1 [o1 9 (.bin .lss (.t 8) (.t 7)) 1004]) (.seq (.cond (.t 9) .skip (.exit 0)) (.seq (.block 1 (.seq (.reg 1005 2 [o1 10 (.mv (.t 8)) 1005,o1 5 (.mv (.t 10)) 1006]) (.seq (.reg 1007 6 [o1 11 (.mv (.t 1)) 1007,o1 12 (.mv (.t 0)) 1008,o1 13 (.mv (.t 5)) 1009,o1 14 (.iaddr 3 (.t 12) (.t 13)) 1010,o1 15 (.load 3 .true (.t 14)) 1011,o1 16 (.callv (.t 11) [.t 15]) 1012])
 (.cond (.t 16) (.seq (.reg 1013 2 [o1 17 (.mv (.t 5)) 1013,o1 4 (.mv (.t 17)) 1014]) .ret) .skip))))
 (.reg 1015 2 [o1 18 (.bin .add (.t 8) (.k (.int .i64 1))) 1015,o1 8 (.mv (.t 18)) 1016]))))))) (.seq
 (.reg 1017 1 [o1 4 (.mv (.k (.int .i64 (-1)))) 1017]) .ret))
def rs116:List IRes:=[.tmp 4]
set_option maxRecDepth 100000 in
theorem comp116:CompAt Tryz.prog 116 1000 ir116 rs116 19:=⟨⟨_,_,1018,Tryz.func116,rfl,by kernel_rfl,by kernel_rfl,rfl⟩⟩
theorem body116:HasBody Tryz.prog 116:=hasBody_of (by kernel_rfl)
def ir117:IC :=
 .seq (.reg 1000 1 [o1 4 (.mv (.k (.int .i64 0))) 1000]) (.seq (.seq (.reg 1001 3 [o1 6 (.mv (.t 0)) 1001,
 o1 7 (.len (.t 6)) 1002,o1 8 (.mv (.k (.int .i64 0))) 1003]) (.block 0 (.loop (.seq (.reg 1004 1 [o1 9 (.bin .lss (.t 8) (.t 7)) 1004]) (.seq (.cond (.t 9) .skip (.exit 0)) (.seq (.block 1 (.seq (.reg 1005 2 [o1 10 (.mv (.t 8)) 1005,o1 5 (.mv (.t 10)) 1006]) (.seq (.reg 1007 6 [o1 11 (.mv (.t 1)) 1007,o1 12 (.mv (.t 0)) 1008,o1 13 (.mv (.t 5)) 1009,o1 14 (.iaddr 1 (.t 12) (.t 13)) 1010,o1 15 (.load 1 .false (.t 14)) 1011,o1 16 (.callv (.t 11) [.t 15]) 1012])
 (.cond (.t 16) (.seq (.reg 1013 2 [o1 17 (.mv (.t 5)) 1013,o1 4 (.mv (.t 17)) 1014]) .ret) .skip))))
 (.reg 1015 2 [o1 18 (.bin .add (.t 8) (.k (.int .i64 1))) 1015,o1 8 (.mv (.t 18)) 1016]))))))) (.seq
 (.reg 1017 1 [o1 4 (.mv (.k (.int .i64 (-1)))) 1017]) .ret))
def rs117:List IRes:=[.tmp 4]
set_option maxRecDepth 100000 in
theorem comp117:CompAt Tryz.prog 117 1000 ir117 rs117 19:=⟨⟨_,_,1018,Tryz.func117,rfl,by kernel_rfl,by kernel_rfl,rfl⟩⟩
theorem body117:HasBody Tryz.prog 117:=hasBody_of (by kernel_rfl)
def ir131:IC :=
 .seq (.reg 1000 1 [o1 4 (.mv (.k (.int .i64 0))) 1000]) (.seq (.seq (.reg 1001 3 [o1 6 (.mv (.t 0)) 1001,
 o1 7 (.len (.t 6)) 1002,o1 8 (.mv (.k (.int .i64 0))) 1003]) (.block 0 (.loop (.seq (.reg 1004 1 [o1 9 (.bin .lss (.t 8) (.t 7)) 1004]) (.seq (.cond (.t 9) .skip (.exit 0)) (.seq (.block 1 (.seq (.reg 1005 2 [o1 10 (.mv (.t 8)) 1005,o1 5 (.mv (.t 10)) 1006]) (.seq (.reg 1007 6 [o1 11 (.mv (.t 1)) 1007,o1 12 (.mv (.t 0)) 1008,o1 13 (.mv (.t 5)) 1009,o1 14 (.iaddr 1 (.t 12) (.t 13)) 1010,o1 15 (.load 1 .false (.t 14)) 1011,o1 16 (.callv (.t 11) [.t 15]) 1012])
 (.cond (.t 16) (.seq (.reg 1013 2 [o1 17 (.mv (.t 5)) 1013,o1 4 (.mv (.t 17)) 1014]) .ret) .skip))))
 (.reg 1015 2 [o1 18 (.bin .add (.t 8) (.k (.int .i64 1))) 1015,o1 8 (.mv (.t 18)) 1016]))))))) (.seq
 (.reg 1017 1 [o1 4 (.mv (.k (.int .i64 (-1)))) 1017]) .ret))
def rs131:List IRes:=[.tmp 4]
set_option maxRecDepth 100000 in
theorem comp131:CompAt Tryz.prog 131 1000 ir131 rs131 19:=⟨⟨_,_,1018,Tryz.func131,rfl,by kernel_rfl,by kernel_rfl,rfl⟩⟩
theorem body131:HasBody Tryz.prog 131:=hasBody_of (by kernel_rfl)

end Go.Proofs.YtfppbjfbghaclaaGreat

namespace Go.Proofs.YtfppbjfbghaclaaGreat
open Go.Pal
theorem body16:HasBody Tryz.prog 16:=hasBody_of (by kernel_rfl)
def ir26:IC :=
 .seq (.reg 0 5 [o1 2 (.box 35 (.t 0)) 0,o1 4 (.alloc 53 [.slice .none 0 0]) 1,o1 5 (.mv (.k (.slice .none 0 0))) 2,o1 6 (.mv (.k (.int .i64 0))) 3,o1 7 (.mv (.k (.int .i64 0))) 4]) (.seq (.reg 5 11 [o1 12 (.load 2 .true (.t 2)) 5,o1 13 (.mv (.t 1)) 6,o1 14 (.call 42 [.t 12, .t 13]) 7,o1 11 (.mv (.t 14)) 8,o1 15 (.ext (.t 11) 0) 9,o1 16 (.ext (.t 11) 1) 10,o1 17 (.ext (.t 11) 2) 11,o1 8 (.alloc 92 [.pointer .none]) 12,o2 (.store 1 (.t 8) (.t 15)) 13,o1 6 (.mv (.t 16)) 14,o1 7 (.mv (.t 17)) 15]) (.seq (.seq (.reg 16 2 [o1 18 (.mv (.t 7)) 16,o1 19 (.bin .neq (.t 18) (.k (.int .i64 0))) 17]) (.cond (.t 19) (.seq (.reg 18 6 [o1 20 (.mv (.t 6)) 18,o1 21 (.mv (.t 7)) 19,o2 (.store 1 (.t 4) (.k (.slice .none 0 0))) 20,o1 5 (.mv (.k (.slice .none 0 0))) 21,o1 6 (.mv (.t 20)) 22,o1 7 (.mv (.t 21)) 23]) .ret) .skip)) (.seq (.seq (.reg 24 2
 [o1 22 (.load 1 .false (.t 8)) 24,o1 23 (.call 44 [.t 22]) 25]) (.block 0 (.range (.t 23) [24,25]
 (.reg 26 1 [o1 10 (.mv (.t 25)) 26]) (.block 1 (.draw 27 12 [] [] [o3 26 (.load 1 .false (.t 4)) 27,o3 27 (.load 1 .false (.t 8)) 28,o3 28 (.nilc (.t 27)) 29,o3 29 (.faddr 2 (.t 28)) 30,o3 30 (.load 1 .false (.t 29)) 31,o3 31 (.mv (.t 10)) 32,o3 32 (.iaddr 4 (.t 30) (.t 31)) 33,o3 33 (.faddr 0 (.t 32)) 34,o3 34 (.load 3 .true (.t 33)) 35, .mk (.some 35) (.bsl 57 3 1 [.string (ByteArray.mk (Array.mk [])), .int .i64 0, .int .i64 0] [(0, .t 34)]) .none 36
 (.some []) .true [] .false, .mk (.some 36) (.app 57 3 32 (.t 26) (.t 35)) .none 37 (.some [36]) .true [] .false, .mk .none (.store 1 (.t 4) (.t 36)) .none 38 (.some [36,37])
 .true [] .false]))))) (.seq (.drawd 39 9 [] [] [] [.some [4], .some [8], .none, .none, .none, .some [4], .none, .none, .none] [(0,o3 37 (.load 1 .false (.t 4)) 39),(1,o3 38 (.load 1 .false (.t 8)) 40),(2, .mk (.some 39) (.nilc (.t 38)) .none 41 (.some []) .true [1]
 .false),(3, .mk (.some 40) (.faddr 3 (.t 39)) .none 42 (.some []) .true [1,2] .false),(4, .mk (.some 41) (.load 1 .false (.t 40)) .none 43 (.some []) .true [2,1,3] .false),
 (5, .mk .none (.store 1 (.t 4) (.t 37)) .none 44 (.some []) .true [0] .false),(6, .mk (.some 5) (.mv (.t 41)) .none 45 (.some []) .true [0,5,3,1,2,4] .false),(7, .mk (.some
 6) (.mv (.k (.int .i64 0))) .none 46 (.some []) .true [4,2,1,3,5,0,6] .false),(8, .mk (.some 7) (.mv (.k (.int .i64 0))) .none 47 (.some []) .true [6,0,5,3,1,2,4,7]
 .false)]) .ret))))
def rs26:List IRes:=[.cell 4 1 .false, .tmp 5, .tmp 6, .tmp 7]
set_option maxRecDepth 100000 in
theorem comp26:Comp Tryz.prog 26 ir26 rs26 42:=⟨⟨_,_,48,Tryz.func26,rfl,by kernel_rfl,by kernel_rfl,rfl⟩⟩
theorem body26:HasBody Tryz.prog 26:=hasBody_of (by kernel_rfl)
theorem body43:HasBody Tryz.prog 43:=hasBody_of (by kernel_rfl)
def ir44:IC :=
 .seq (.reg 0 2 [o1 1 (.box 92 (.t 0)) 0,o1 2 (.mv (.k .nilFunc)) 1]) (.seq (.reg 2 2 [o1 3 (.mkf 72 [] [.t 1]) 2,o1 2 (.mv (.t 3)) 3]) .ret)
def rs44:List IRes:=[.tmp 2]
set_option maxRecDepth 100000 in
theorem comp44:Comp Tryz.prog 44 ir44 rs44 4:=⟨⟨_,_,4,Tryz.func44,rfl,by kernel_rfl,by kernel_rfl,rfl⟩⟩
theorem body44:HasBody Tryz.prog 44:=hasBody_of (by kernel_rfl)
def ir45:IC :=
 .seq (.reg 0 2 [o1 2 (.box 35 (.t 0)) 0,o1 4 (.alloc 51 [.slice .none 0 0, .int .i64 0, .int .i64 0, .slice .none 0 0]) 1]) (.seq (.reg 2 5 [o1 9 (.mv (.t 1)) 2,o1 10 (.call 73 [.t 9]) 3,o1 11 (.bld [(0,1),(1,1),(2,1),(3,1)] [.slice .none 0 0, .int .i64 0, .int .i64 0, .slice .none 0 0] [(0, .t 10),(1, .k (.int .i64 (-1))),(2, .k (.int .i64 (-1))),(3, .k (.slice .none 0 0))]) 4,o1 5 (.alloc 51 [.slice .none 0 0, .int .i64 0, .int .i64 0, .slice .none 0 0]) 5,o2 (.store 4 (.t 5) (.t 11)) 6]) (.seq (.seq (.reg 7 3 [o1 12 (.mv (.t 1)) 7,o1 13 (.len (.t 12)) 8,o1 14 (.mv (.k (.int .i64 0))) 9]) (.block 0 (.loop (.seq (.reg 10 1 [o1 15 (.bin .lss (.t 14) (.t 13)) 10]) (.seq (.cond (.t 15) .skip (.exit 0)) (.seq (.block 1 (.seq (.reg 11 5 [o1 16 (.mv (.t 14)) 11,o1 17 (.iaddr 1 (.t 12) (.t 14)) 12,o1 18 (.load 1 .false (.t 17)) 13,o1 6 (.mv (.t 16)) 14,o1 7 (.mv (.t 18)) 15]) (.seq (.reg 16 7 [o1 19 (.faddr 0 (.t 2)) 16,o1 20 (.load 1 .false (.t 19)) 17,o1 21 (.mv (.t 7)) 18,o1 22 (.iaddr 3 (.t 20) (.t 21)) 19,o1 23 (.load 3 .true (.t 22)) 20, .mk (.some 8) (.alloc 107 [.string (ByteArray.mk (Array.mk [])), .int .i64 0,
 .int .i64 0]) .none 21 .none .false [] .false,o2 (.store 3 (.t 8) (.t 23)) 22]) (.seq (.seq (.reg 23 2 [o1 24 (.mv (.t 6)) 23,o1 25 (.bin .eql (.t 24) (.k (.int .i64 0))) 24]) (.cond (.t 25) (.reg 25 4 [o1 26 (.faddr 1 (.t 8)) 25,o1 27 (.load 1 .false (.t 26)) 26,o1 28 (.faddr 1 (.t 5)) 27,o2 (.store 1 (.t 28) (.t 27)) 28]) .skip)) (.seq (.reg 29 4 [o1 29 (.faddr 1 (.t 8)) 29,o1 30 (.load 1 .false (.t 29)) 30,o1 31 (.faddr 2 (.t 5)) 31,o2 (.store 1 (.t 31) (.t 30)) 32]) (.reg 33 8 [o1 32 (.faddr 3 (.t 5)) 33,o1 33 (.load 1 .false (.t 32)) 34,o1 34 (.faddr 2 (.t 8)) 35,o1 35 (.load 1 .false (.t 34)) 36,o1 36 (.bsl 3 1 1 [.int .i64 0] [(0, .t 35)]) 37,o1 37 (.app 3 1 8 (.t 33) (.t 36)) 38,o1 38 (.faddr 3 (.t 5)) 39,o2 (.store 1 (.t 38) (.t 37)) 40])))))) (.reg 41 2 [o1 39 (.bin .add (.t 14) (.k (.int .i64 1))) 41,o1 14 (.mv (.t 39)) 42]))))))) (.seq (.reg 43 5 [o1 40 (.faddr 3 (.t 5)) 43,o1 41 (.load 1 .false (.t 40)) 44,o1 42 (.cut 71 (.t 41) []) 45,o1 43 (.faddr 3 (.t 5)) 46,
 o2 (.store 1 (.t 43) (.t 42)) 47]) (.seq (.reg 48 2 [o1 44 (.load 4 .true (.t 5)) 48,o2 (.store 4 (.t 4) (.t 44)) 49]) .ret))))
def rs45:List IRes:=[.cell 4 4 .true]
set_option maxRecDepth 100000 in
theorem comp45:Comp Tryz.prog 45 ir45 rs45 45:=⟨⟨_,_,50,Tryz.func45,rfl,by kernel_rfl,by kernel_rfl,rfl⟩⟩
theorem body45:HasBody Tryz.prog 45:=hasBody_of (by kernel_rfl)
def ir62:IC :=
 .seq (.reg 1000 2 [o1 5 (.box 125 (.t 2)) 1000,o1 6 (.alloc 125 [.int .i64 0, .int .i64 0]) 1001]) (.seq
 (.reg 1002 3 [o1 9 (.mv (.t 0)) 1002,o1 10 (.call 88 [.t 9]) 1003,o1 7 (.mv (.t 10)) 1004]) (.seq (.block 0 (.loop (.seq (.seq (.reg 1005 5 [o1 11 (.faddr 0 (.t 5)) 1005,o1 12 (.load 1 .false (.t 11)) 1006,o1 13 (.mv (.t 1)) 1007,o1 14 (.len (.t 13)) 1008,o1 15 (.bin .lss (.t 12) (.t 14)) 1009]) (.cond (.t 15) .skip (.exit 0))) (.seq (.block 1 (.seq (.reg 1010 3 [o1 20 (.faddr 1 (.t 5)) 1010,o1 21 (.load 1 .false (.t 20)) 1011,o1 8 (.mv (.t 21)) 1012])
 (.block 2 (.loop (.seq (.seq (.reg 1013 4 [o1 22 (.mv (.t 8)) 1013,o1 23 (.mv (.t 7)) 1014,o1 24 (.len (.t 23)) 1015,o1 25 (.bin .lss (.t 22) (.t 24)) 1016]) (.cond (.t 25) .skip (.exit 2))) (.seq (.block
 3 (.seq (.reg 1017 9 [o1 28 (.mv (.t 0)) 1017,o1 29 (.mv (.t 1)) 1018,o1 30 (.faddr 0 (.t 5)) 1019,o1 31 (.load 1 .false (.t 30)) 1020,o1 32 (.iaddr 2 (.t 29) (.t 31)) 1021,o1 33 (.load 2 .true (.t 32)) 1022,o1 34 (.mv (.t 7)) 1023,o1 35 (.mv (.t 8)) 1024,o1 36 (.call 89 [.t 28, .t 33, .t 34, .t 35]) 1025]) (.cond (.t 36) (.seq (.reg 1026 5 [o1 37 (.faddr 0 (.t 5)) 1026,o1 38 (.load 1 .false (.t 37)) 1027,o1 39 (.mv (.t 8)) 1028,o1 40 (.bld [(0,1),(1,1)] [.int .i64 0, .int .i64 0] [(0, .t 38),(1, .t 39)]) 1029,o2 (.store 2 (.t 6) (.t 40)) 1030]) .ret) .skip))) (.reg 1031 3 [o1 26 (.mv (.t 8)) 1031,o1 27 (.bin .add (.t 26) (.k (.int .i64 1))) 1032,o1 8 (.mv (.t 27)) 1033]))))))) (.reg 1034 5 [o1 16 (.faddr 0 (.t 5)) 1034,o1 17 (.load 1 .false (.t 16)) 1035,o1 18 (.bin .add (.t 17) (.k (.int .i64 1))) 1036,o1 19 (.bld [(0,1),(1,1)] [.int .i64 0, .int .i64 0] [(0, .t 18),(1, .k (.int .i64 0))]) 1037,o2 (.store 2 (.t 5) (.t 19)) 1038]))))) (.seq (.reg 1039 2 [o1 41 (.call 63 []) 1039,o2 (.store 2 (.t 6) (.t 41)) 1040]) .ret)))
def rs62:List IRes:=[.cell 6 2 .true]
set_option maxRecDepth 100000 in
theorem comp62:CompAt Tryz.prog 62 1000 ir62 rs62 42:=⟨⟨_,_,1041,Tryz.func62,rfl,by kernel_rfl,by kernel_rfl,rfl⟩⟩
theorem body62:HasBody Tryz.prog 62:=hasBody_of (by kernel_rfl)
def ir63:IC :=
 .seq (.reg 0 1 [o1 0 (.alloc 125 [.int .i64 0, .int .i64 0]) 0]) (.seq (.reg 1 2 [o1 1 (.bld [(0,1),(1,1)] [.int .i64 0, .int .i64 0] [(0, .k (.int .i64 (-1))),(1, .k (.int .i64 (-1)))]) 1,o2 (.store 2 (.t 0) (.t 1)) 2]) .ret)
def rs63:List IRes:=[.cell 0 2 .true]
set_option maxRecDepth 100000 in
theorem comp63:Comp Tryz.prog 63 ir63 rs63 2:=⟨⟨_,_,3,Tryz.func63,rfl,by kernel_rfl,by kernel_rfl,rfl⟩⟩
theorem body63:HasBody Tryz.prog 63:=hasBody_of (by kernel_rfl)
def ir64:IC :=
 .seq (.reg 0 1 [o1 2 (.mv (.k (.slice .none 0 0))) 0]) (.seq (.seq (.reg 1 2 [o1 3 (.mv (.t 0)) 1,o1 4 (.pur (.bin .eql 59) [.t 3, .k (.slice .none 0 0)]) 2]) (.cond (.t 4) (.seq (.reg 3 1 [o1 2 (.mv (.k (.slice .none 0 0))) 3]) .ret) .skip)) (.seq (.reg 4 4 [o1 5 (.bsl 9 1 0 [] []) 4,o1 6 (.mv (.t 0)) 5,
 o1 7 (.app 9 1 16 (.t 5) (.t 6)) 6,o1 2 (.mv (.t 7)) 7]) .ret))
def rs64:List IRes:=[.tmp 2]
set_option maxRecDepth 100000 in
theorem comp64:Comp Tryz.prog 64 ir64 rs64 8:=⟨⟨_,_,8,Tryz.func64,rfl,by kernel_rfl,by kernel_rfl,rfl⟩⟩
theorem body64:HasBody Tryz.prog 64:=hasBody_of (by kernel_rfl)
theorem body70:HasBody Tryz.prog 70:=hasBody_of (by kernel_rfl)
theorem body71:HasBody Tryz.prog 71:=hasBody_of (by kernel_rfl)
def ir72:IC :=
 .seq (.reg 0 1 [o1 3 (.mv (.k (.int .i64 0))) 0]) (.seq (.reg 1 6 [o1 6 (.load 1 .false (.t 1)) 1,o1 7 (.nilc (.t 6)) 2,o1 8 (.faddr 2 (.t 7)) 3,o1 9 (.load 1 .false (.t 8)) 4,o1 10 (.len (.t 9)) 5,o1 11 (.mv (.k (.int .i64 0))) 6]) (.block 0 (.loop (.seq (.reg 7 1
 [o1 12 (.bin .lss (.t 11) (.t 10)) 7]) (.seq (.cond (.t 12) .skip (.exit 0)) (.seq (.block 1 (.seq (.reg 8 6 [o1 13 (.mv (.t 11)) 8,o1 14 (.iaddr 4 (.t 9) (.t 11)) 9,o1 15 (.load 4 .true (.t 14)) 10,
 .mk (.some 5) (.alloc 102 [.string (ByteArray.mk (Array.mk [])), .int .i64 0, .int .i64 0, .int .i64 0]) .none 11 .none .false [] .false,o1 4 (.mv (.t 13)) 12,o2 (.store 4 (.t 5) (.t 15)) 13]) (.seq (.seq (.reg 14 3 [o1 16 (.faddr 3 (.t 5)) 14,o1 17 (.load 1 .false (.t 16)) 15,o1 18 (.bin .neq (.t 17) (.k (.int .i64 0))) 16]) (.cond (.t
 18) (.exit 1) .skip)) (.seq (.seq (.reg 17 5 [o1 19 (.mv (.t 0)) 17,o1 20 (.mv (.t 3)) 18,o1 21 (.mv (.t 4)) 19,o1 22 (.callv (.t 19) [.t 20, .t 21]) 20,o1 23 (.un .not (.t 22)) 21]) (.cond (.t 23) .ret .skip)) (.reg 22 3 [o1 24 (.mv (.t 3)) 22,o1 25 (.bin .add (.t 24) (.k (.int .i64 1))) 23,o1 3 (.mv (.t 25)) 24]))))) (.reg 25 2 [o1 26 (.bin .add (.t 11) (.k (.int .i64 1))) 25,o1 11 (.mv (.t 26)) 26])))))))
def rs72:List IRes:=[]
set_option maxRecDepth 100000 in
theorem comp72:Comp Tryz.prog 72 ir72 rs72 27:=⟨⟨_,_,27,Tryz.func72,rfl,by kernel_rfl,by kernel_rfl,rfl⟩⟩
theorem body72:HasBody Tryz.prog 72:=hasBody_of (by kernel_rfl)
def ir73:IC :=
 .seq (.reg 0 1 [o1 2 (.mv (.k (.slice .none 0 0))) 0]) (.seq (.seq (.reg 1 2 [o1 3 (.mv (.t 0)) 1,o1 4 (.pur (.bin .eql 23) [.t 3, .k (.slice .none 0 0)]) 2]) (.cond (.t 4) (.seq (.reg 3 1 [o1 2 (.mv (.k (.slice .none 0 0))) 3]) .ret) .skip)) (.seq (.reg 4 4 [o1 5 (.bsl 3 1 0 [] []) 4,o1 6 (.mv (.t 0)) 5,
 o1 7 (.app 3 1 8 (.t 5) (.t 6)) 6,o1 2 (.mv (.t 7)) 7]) .ret))
def rs73:List IRes:=[.tmp 2]
set_option maxRecDepth 100000 in
theorem comp73:Comp Tryz.prog 73 ir73 rs73 8:=⟨⟨_,_,8,Tryz.func73,rfl,by kernel_rfl,by kernel_rfl,rfl⟩⟩
theorem body73:HasBody Tryz.prog 73:=hasBody_of (by kernel_rfl)
def ir77:IC :=
 .seq (.reg 0 1 [o1 6 (.mv (.k (.bool .false))) 0]) (.seq (.reg 1 9 [o1 7 (.mv (.t 1)) 1,o1 8 (.mv (.t 0)) 2,o1 9 (.bin .leq (.t 7) (.t 8)) 3,o1 10 (.mv (.t 9)) 4,
 .mk (.some 11) (.mv (.t 0)) (.some (10, .true)) 5 .none .false [] .false, .mk (.some 12) (.mv (.t 2)) (.some (10, .true)) 6 .none .false [] .false, .mk (.some 13) (.bin .leq (.t
 11) (.t 12)) (.some (10, .true)) 7 .none .false [] .false,o1 14 (.pick (.t 10) (.t 13) (.k (.bool .false))) 8,o1 6 (.mv (.t 14)) 9]) .ret)
def rs77:List IRes:=[.tmp 6]
set_option maxRecDepth 100000 in
theorem comp77:Comp Tryz.prog 77 ir77 rs77 15:=⟨⟨_,_,10,Tryz.func77,rfl,by kernel_rfl,by kernel_rfl,rfl⟩⟩
theorem body77:HasBody Tryz.prog 77:=hasBody_of (by kernel_rfl)
def ir82:IC :=
 .seq (.reg 0 1 [o1 4 (.mv (.k (.bool .false))) 0]) (.seq (.reg 1 5 [o1 5 (.mv (.t 0)) 1,o1 6 (.mv (.t 1)) 2,o1 7 (.call 104 [.t 5, .t 6]) 3,o1 8 (.bin .geq (.t 7) (.k (.int .i64 0))) 4,o1 4 (.mv (.t 8)) 5]) .ret)
def rs82:List IRes:=[.tmp 4]
set_option maxRecDepth 100000 in
theorem comp82:Comp Tryz.prog 82 ir82 rs82 9:=⟨⟨_,_,6,Tryz.func82,rfl,by kernel_rfl,by kernel_rfl,rfl⟩⟩
theorem body82:HasBody Tryz.prog 82:=hasBody_of (by kernel_rfl)
def ir88:IC :=
 .seq (.reg 0 1 [o1 2 (.alloc 23 [.slice .none 0 0]) 0]) (.seq (.seq (.reg 1 2 [o1 5 (.mv (.t 0)) 1,o1 6 (.call 44 [.t 5]) 2]) (.block 0 (.range (.t 6) [7,8] (.reg 3 1 [o1 4 (.mv (.t 8)) 3]) (.block 1 (.reg
 4 5 [o1 9 (.load 1 .false (.t 2)) 4,o1 10 (.mv (.t 4)) 5,o1 11 (.bsl 3 1 1 [.int .i64 0] [(0, .t 10)]) 6,o1 12 (.app 3 1 8 (.t 9) (.t 11)) 7,o2 (.store 1 (.t 2) (.t 12)) 8]))))) (.seq (.reg 9 2 [o1 13 (.load 1 .false (.t 2)) 9,o2 (.store 1 (.t 2) (.t 13)) 10])
 .ret))
def rs88:List IRes:=[.cell 2 1 .false]
set_option maxRecDepth 100000 in
theorem comp88:Comp Tryz.prog 88 ir88 rs88 14:=⟨⟨_,_,11,Tryz.func88,rfl,by kernel_rfl,by kernel_rfl,rfl⟩⟩
theorem body88:HasBody Tryz.prog 88:=hasBody_of (by kernel_rfl)
def ir89:IC :=
 .seq (.reg 1000 2 [o1 5 (.box 119 (.t 1)) 1000,o1 8 (.mv (.k (.bool .false))) 1001]) (.seq (.seq (.reg
 1002 8 [o1 12 (.mv (.t 3)) 1002,o1 13 (.faddr 0 (.t 5)) 1003,o1 14 (.load 1 .false (.t 13)) 1004,o1 15 (.len (.t 14)) 1005,o1 16 (.bin .add (.t 12) (.t 15)) 1006,
 o1 17 (.mv (.t 2)) 1007,o1 18 (.len (.t 17)) 1008,o1 19 (.bin .gtr (.t 16) (.t 18)) 1009]) (.cond (.t 19) (.seq (.reg 1010 1 [o1 8 (.mv (.k (.bool .false))) 1010]) .ret) .skip)) (.seq (.seq (.reg 1011 4
 [o1 20 (.faddr 0 (.t 5)) 1011,o1 21 (.load 1 .false (.t 20)) 1012,o1 22 (.len (.t 21)) 1013,o1 23 (.mv (.k (.int .i64 0))) 1014]) (.block 0 (.loop (.seq (.reg 1015 1 [o1 24 (.bin .lss (.t 23) (.t 22)) 1015]) (.seq (.cond (.t 24) .skip (.exit 0)) (.seq (.block 1 (.seq (.reg 1016 5 [o1 25 (.mv (.t 23)) 1016,
 o1 26 (.iaddr 1 (.t 21) (.t 23)) 1017,o1 27 (.load 1 .false (.t 26)) 1018,o1 9 (.mv (.t 25)) 1019,o1 10 (.mv (.t 27)) 1020]) (.seq (.draw 1021 14 [] [] [o3 28 (.mv (.t 0)) 1021,o3 29 (.nilc (.t 28)) 1022,o3 30 (.faddr 2 (.t 29)) 1023,o3 31 (.load 1 .false (.t 30)) 1024,o3 32 (.mv (.t 2)) 1025,o3 33 (.mv (.t 3)) 1026,o3 34 (.mv (.t 9)) 1027,o3 35 (.bin .add (.t 33) (.t 34)) 1028,o3 36 (.iaddr 1 (.t 32) (.t 35)) 1029,o3 37 (.load 1 .false (.t 36)) 1030,o3 38 (.iaddr 4 (.t 31) (.t 37)) 1031,o3 39 (.load 4 .true (.t 38)) 1032, .mk (.some 11) (.alloc 102 [.string
 (ByteArray.mk (Array.mk [])), .int .i64 0, .int .i64 0, .int .i64 0]) .none 1033 (.some []) .true [] .false, .mk .none (.store 4 (.t 11) (.t 39)) .none 1034 (.some [1033]) .true
 [] .false]) (.seq (.reg 1035 10 [o1 40 (.faddr 0 (.t 11)) 1035,o1 41 (.faddr 0 (.t 40)) 1036,o1 42 (.load 1 .false (.t 41)) 1037,o1 43 (.mv (.t 10)) 1038,o1 44 (.pur (.bin .neq 9) [.t 42, .t 43]) 1039,o1 45 (.mv (.t 44)) 1040, .mk (.some 46) (.mv (.t 0)) (.some (45, .false)) 1041 .none .false []
 .false, .mk (.some 47) (.load 4 .true (.t 11)) (.some (45, .false)) 1042 .none .false [] .false, .mk (.some 48) (.call 91 [.t 46, .t 47]) (.some (45, .false)) 1043 .none .false []
 .false,o1 49 (.pick (.t 45) (.k (.bool .true)) (.t 48)) 1044]) (.cond (.t 49) (.seq (.reg 1045 1 [o1 8 (.mv (.k (.bool .false))) 1045]) .ret) .skip))))) (.reg 1046 2 [o1 50 (.bin .add (.t 23) (.k (.int .i64 1))) 1046,o1 23 (.mv (.t 50)) 1047]))))))) (.seq (.reg 1048 1 [o1 8 (.mv (.k (.bool .true))) 1048]) .ret)))
def rs89:List IRes:=[.tmp 8]
set_option maxRecDepth 100000 in
theorem comp89:CompAt Tryz.prog 89 1000 ir89 rs89 51:=⟨⟨_,_,1049,Tryz.func89,rfl,by kernel_rfl,by kernel_rfl,rfl⟩⟩
theorem body89:HasBody Tryz.prog 89:=hasBody_of (by kernel_rfl)
def ir90:IC :=
 .seq (.reg 0 2 [o1 2 (.mv (.t 0)) 0,o1 3 (.un .not (.t 2)) 1]) (.cond (.t 3) (.reg 2 3 [o1 4 (.bld [] [] []) 2,o1 5 (.pur (.mki 131) [.t 4]) 3,o2 (.lenS (.k (.bool .true))) 4]) .skip)
def rs90:List IRes:=[]
set_option maxRecDepth 100000 in
theorem comp90:Comp Tryz.prog 90 ir90 rs90 6:=⟨⟨_,_,5,Tryz.func90,rfl,by kernel_rfl,by kernel_rfl,rfl⟩⟩
theorem body90:HasBody Tryz.prog 90:=hasBody_of (by kernel_rfl)
def ir99:IC :=
 .seq (.reg 0 1 [o1 2 (.mv (.k (.bool .false))) 0]) (.seq (.reg 1 7 [o1 3 (.mv (.t 0)) 1,o1 4 (.bin .leq (.k (.int .u8 33)) (.t 3)) 2,o1 5 (.mv (.t 4)) 3, .mk (.some 6) (.mv (.t 0)) (.some (5, .true)) 4
 .none .false [] .false, .mk (.some 7) (.bin .leq (.t 6) (.k (.int .u8 126))) (.some (5, .true)) 5 .none .false [] .false,o1 8 (.pick (.t 5) (.t 7) (.k (.bool .false))) 6,o1 2 (.mv (.t 8)) 7]) .ret)
def rs99:List IRes:=[.tmp 2]
set_option maxRecDepth 100000 in
theorem comp99:Comp Tryz.prog 99 ir99 rs99 9:=⟨⟨_,_,8,Tryz.func99,rfl,by kernel_rfl,by kernel_rfl,rfl⟩⟩
theorem body99:HasBody Tryz.prog 99:=hasBody_of (by kernel_rfl)
def ir104:IC :=
 .seq (.reg 0 1 [o1 4 (.mv (.k (.int .i64 0))) 0]) (.seq (.seq (.reg 1 3 [o1 6 (.mv (.t 0)) 1,o1 7 (.len (.t 6)) 2,o1 8 (.mv (.k (.int .i64 0))) 3]) (.block 0 (.loop (.seq (.reg 4 1 [o1 9 (.bin .lss (.t 8) (.t 7)) 4]) (.seq (.cond (.t 9) .skip (.exit 0)) (.seq (.block 1 (.seq (.reg 5 2 [o1 10 (.mv (.t 8)) 5,
 o1 5 (.mv (.t 10)) 6]) (.seq (.reg 7 6 [o1 11 (.mv (.t 1)) 7,o1 12 (.mv (.t 0)) 8,o1 13 (.mv (.t 5)) 9,o1 14 (.iaddr 1 (.t 12) (.t 13)) 10,o1 15 (.load 1 .false (.t 14)) 11,o1 16 (.bin .eql (.t 11) (.t 15)) 12]) (.cond (.t 16) (.seq (.reg 13 2 [o1 17 (.mv (.t 5)) 13,o1 4 (.mv (.t 17)) 14]) .ret) .skip)))) (.reg 15 2 [o1 18 (.bin .add (.t 8) (.k (.int .i64 1))) 15,o1 8 (.mv (.t 18)) 16]))))))) (.seq (.reg 17 1 [o1 4 (.mv (.k (.int .i64 (-1)))) 17]) .ret))
def rs104:List IRes:=[.tmp 4]
set_option maxRecDepth 100000 in
theorem comp104:Comp Tryz.prog 104 ir104 rs104 19:=⟨⟨_,_,18,Tryz.func104,rfl,by kernel_rfl,by kernel_rfl,rfl⟩⟩
theorem body104:HasBody Tryz.prog 104:=hasBody_of (by kernel_rfl)

end Go.Proofs.YtfppbjfbghaclaaGreat

namespace Go.Proofs.YtfppbjfbghaclaaGreat
open Go.Pal
def ir37:IC :=
 .seq (.reg 1000 3 [o1 2 (.box 35 (.t 0)) 1000,o1 4 (.mv (.k (.slice .none 0 0))) 1001,o1 5 (.mv (.k (.int .i64 0))) 1002]) (.seq (.reg 1003 1 [o1 6 (.mv (.f 58)) 1003]) (.seq (.seq (.reg 1004 14 [o1 12 (.load 2 .true (.t 2)) 1004,o1 13 (.call 53 [.t 12]) 1005,o1 14 (.un .not (.t 13)) 1006,o1 15 (.mv (.t 14)) 1007, .mk (.some 16) (.mv (.t 1)) (.some (15, .false)) 1008 .none .false [] .false, .mk
 (.some 17) (.len (.t 16)) (.some (15, .false)) 1009 .none .false [] .false, .mk (.some 18) (.bin .gtr (.t 17) (.k (.int .i64 10))) (.some (15, .false)) 1010 .none .false []
 .false,o1 19 (.pick (.t 15) (.k (.bool .true)) (.t 18)) 1011,o1 20 (.mv (.t 19)) 1012, .mk (.some 21)
 (.mv (.t 1)) (.some (20, .false)) 1013 .none .false [] .false, .mk (.some 22) (.mv (.t 6)) (.some (20, .false)) 1014 .none .false [] .false, .mk (.some 23) (.call 60 [.t 21, .t
 22]) (.some (20, .false)) 1015 .none .false [] .false, .mk (.some 24) (.un .not (.t 23)) (.some (20, .false)) 1016 .none .false [] .false,o1 25 (.pick (.t 20) (.k (.bool .true)) (.t 24)) 1017]) (.cond (.t 25) (.seq (.reg 1018 2 [o1 4 (.mv (.k (.slice .none 0 0))) 1018,o1 5 (.mv (.k (.int .i64 1))) 1019]) .ret) .skip)) (.seq (.reg 1020 3 [o1 26 (.load 2 .true (.t 2)) 1020,o1 27 (.call 61 [.t 26]) 1021,o1 7 (.mv (.t 27)) 1022]) (.seq (.reg 1023 1 [o1 8 (.mv (.k (.slice .none 0 0))) 1023]) (.seq (.seq (.reg 1024 6 [o1 28 (.mv (.t 7)) 1024,o1 29 (.mv (.t 1)) 1025,o1 30 (.bld [(0,1),(1,1)] [.int .i64 0, .int .i64 0] []) 1026,o1 31 (.call 62 [.t 28, .t 29, .t 30]) 1027,o1 9 (.alloc 125 [.int .i64 0, .int .i64 0]) 1028,o2 (.store 2 (.t 9) (.t 31)) 1029]) (.block 0 (.loop (.seq (.seq (.draw 1030 3 [] [] [o3 32 (.load 2 .true (.t 9)) 1030,o3 33 (.call 63 []) 1031, .mk (.some 34) (.pur (.bin .neq 125) [.t 32, .t 33]) .none 1032 (.some [1031]) .true [] .false]) (.cond (.t 34) .skip (.exit 0))) (.seq
 (.block 1 (.seq (.reg 1033 7 [o1 35 (.mv (.t 1)) 1033,o1 36 (.faddr 0 (.t 9)) 1034,o1 37 (.load 1 .false (.t 36)) 1035,o1 38 (.iaddr 2 (.t 35) (.t 37)) 1036,o1 39 (.load 2 .true (.t 38)) 1037,o1 10 (.alloc 119 [.slice .none 0 0, .slice .none 0 0]) 1038,o2 (.store 2 (.t 10) (.t 39)) 1039]) (.seq (.draw 1040 11 [10] [] [o3 40 (.faddr 1 (.t 9)) 1040,o3 41 (.load 1 .false (.t 40)) 1041,o3 42 (.faddr 0 (.t 10)) 1042,o3 43 (.load 1 .false (.t 42)) 1043,o3 44 (.len (.t 43)) 1044,o3 45 (.faddr 1 (.t 10)) 1045,o3 46 (.load 1 .false (.t 45)) 1046,o3 47 (.call 64 [.t 46]) 1047, .mk (.some 48) (.bld [(0,1),(1,1),(2,1),(3,
 1)] [.int .i64 0, .int .i64 0, .int .i64 0, .slice .none 0 0] [(0, .k (.int .i64 0)),(1, .t 41),(2, .t 44),(3, .t 47)]) .none 1048 (.some [1047]) .true [] .false,o3 11 (.alloc 76 [.int .i64 0, .int .i64 0, .int .i64 0, .slice .none 0 0]) 1049, .mk .none (.store 4 (.t 11) (.t 48)) .none 1050 (.some [1047,
 1049]) .true [] .false]) (.seq (.seq (.reg 1051 3 [o1 49 (.mv (.t 8)) 1051,o1 50 (.len (.t 49)) 1052,
 o1 51 (.bin .eql (.t 50) (.k (.int .i64 80))) 1053]) (.cond (.t 51) (.seq (.reg 1054 2 [o1 4 (.mv (.k (.slice .none 0 0))) 1054,o1 5 (.mv (.k (.int .i64 3))) 1055]) .ret) .skip)) (.seq (.reg 1056 5 [o1 52 (.mv (.t 8)) 1056,o1 53 (.load 4 .true (.t 11)) 1057,o1 54 (.bsl 76 4 1 [.int .i64 0, .int .i64 0, .int .i64 0, .slice .none 0 0] [(0, .t 53)]) 1058,o1 55 (.app 76 4 48 (.t 52) (.t 54)) 1059,o1 8 (.mv (.t 55)) 1060]) (.seq (.reg 1061 3 [o1 56 (.mv (.t 7)) 1061,o1 57 (.load 4 .true (.t 11)) 1062,o1 58 (.call 65 [.t 56, .t 57]) 1063]) (.reg 1064 13 [o1 59 (.mv (.t 7)) 1064,o1 60 (.mv (.t 1)) 1065,o1 61 (.faddr 0 (.t 9)) 1066,o1 62 (.load 1 .false (.t 61)) 1067,
 o1 63 (.faddr 1 (.t 9)) 1068,o1 64 (.load 1 .false (.t 63)) 1069,o1 65 (.faddr 1 (.t 10)) 1070,o1 66 (.load 1 .false (.t 65)) 1071,o1 67 (.len (.t 66)) 1072,o1 68 (.bin .add (.t 64) (.t 67)) 1073,o1 69 (.bld [(0,1),(1,1)] [.int .i64 0, .int .i64 0] [(0, .t 62),(1, .t 68)]) 1074,o1 70 (.call 62 [.t 59, .t 60, .t 69]) 1075,o2 (.store 2 (.t 9) (.t 70)) 1076]))))))) (.seq (.reg 1077 1 [o1 71 (.load 2 .true (.t 9)) 1077]) (.reg 1078 2 [o1 9 (.alloc 125 [.int .i64 0, .int .i64 0]) 1078,o2 (.store 2 (.t 9) (.t 71)) 1079]))))))) (.seq (.reg 1080 3 [o1 72 (.mv (.t 8)) 1080,o1 4 (.mv (.t 72)) 1081,o1 5 (.mv (.k (.int .i64 0))) 1082]) .ret))))))
def rs37:List IRes:=[.tmp 4, .tmp 5]
set_option maxRecDepth 100000 in
theorem comp37:CompAt Tryz.prog 37 1000 ir37 rs37 73:=⟨⟨_,_,1083,Tryz.func37,rfl,by kernel_rfl,by kernel_rfl,rfl⟩⟩
theorem body37:HasBody Tryz.prog 37:=hasBody_of (by kernel_rfl)

def ir55:IC :=
 .seq (.reg 1000 1 [o1 4 (.mv (.k (.slice .none 0 0))) 1000]) (.seq (.reg 1001 4 [o1 8 (.mv (.t 0)) 1001,
 o1 9 (.mv (.t 1)) 1002,o1 10 (.call 81 [.t 8, .t 9]) 1003,o1 5 (.mv (.t 10)) 1004]) (.seq (.seq (.reg 1005 2 [o1 11 (.mv (.t 5)) 1005,o1 12 (.bin .eql (.t 11) (.k (.int .i64 (-1)))) 1006]) (.cond (.t 12) (.seq (.reg 1007 2 [o1 13 (.mv (.t 0)) 1007,o1 4 (.mv (.t 13)) 1008]) .ret) .skip)) (.seq (.seq (.reg 1009 3 [o1 14 (.mv (.t 5)) 1009,o1 15 (.bin .add (.t 14) (.k (.int .i64 1))) 1010,o1 6 (.mv (.t 15)) 1011]) (.block 0 (.loop (.seq (.seq (.reg 1012 4 [o1 16 (.mv (.t 6)) 1012,o1 17 (.mv (.t 0)) 1013,o1 18 (.len (.t 17)) 1014,o1 19 (.bin .lss (.t 16) (.t 18)) 1015]) (.cond (.t 19) .skip (.exit 0))) (.seq (.block 1 (.seq (.reg 1016 5 [o1 22 (.mv (.t 0)) 1016,
 o1 23 (.mv (.t 6)) 1017,o1 24 (.iaddr 1 (.t 22) (.t 23)) 1018,o1 25 (.load 1 .false (.t 24)) 1019,o1 7 (.mv (.t 25)) 1020]) (.seq (.reg 1021 4 [o1 26 (.mv (.t 1)) 1021,o1 27 (.mv (.t 7)) 1022,o1 28 (.callv (.t 26) [.t 27]) 1023,o1 29 (.un .not (.t 28)) 1024]) (.cond (.t 29) (.seq (.reg 1025 5 [o1 30 (.mv (.t 0)) 1025,o1 31 (.mv (.t 5)) 1026,o1 32 (.mv (.t 7)) 1027,o1 33 (.iaddr 1 (.t 30) (.t 31)) 1028,o2 (.store 1 (.t 33) (.t 32)) 1029]) (.reg 1030 3 [o1 34 (.mv (.t 5)) 1030,o1 35 (.bin .add (.t 34) (.k (.int .i64 1))) 1031,o1 5 (.mv (.t 35)) 1032])) .skip)))) (.reg 1033 3 [o1 20 (.mv (.t 6)) 1033,o1 21 (.bin .add (.t 20) (.k (.int .i64 1))) 1034,o1 6 (.mv (.t 21)) 1035]))))))
 (.seq (.reg 1036 4 [o1 36 (.mv (.t 0)) 1036,o1 37 (.mv (.t 5)) 1037,o1 38 (.slc 1 (.t 36) (.some (.t 37)) .none .none) 1038,o2 (.clr [.int .i64 0] (.t 38)) 1039]) (.seq (.reg 1040 4 [o1 39 (.mv (.t 0)) 1040,o1 40 (.mv (.t 5)) 1041,o1 41 (.slc 1 (.t 39) .none (.some (.t 40)) .none) 1042,o1 4 (.mv (.t 41)) 1043]) .ret)))))
def rs55:List IRes:=[.tmp 4]
set_option maxRecDepth 100000 in
theorem comp55:CompAt Tryz.prog 55 1000 ir55 rs55 42:=⟨⟨_,_,1044,Tryz.func55,rfl,by kernel_rfl,by kernel_rfl,rfl⟩⟩
theorem body55:HasBody Tryz.prog 55:=hasBody_of (by kernel_rfl)

def ir93:IC :=
 .seq (.reg 1000 1 [o1 4 (.mv (.k (.slice .none 0 0))) 1000]) (.seq (.reg 1001 4 [o1 8 (.mv (.t 0)) 1001,
 o1 9 (.mv (.t 1)) 1002,o1 10 (.call 111 [.t 8, .t 9]) 1003,o1 5 (.mv (.t 10)) 1004]) (.seq (.seq (.reg 1005 2 [o1 11 (.mv (.t 5)) 1005,o1 12 (.bin .eql (.t 11) (.k (.int .i64 (-1)))) 1006]) (.cond (.t 12) (.seq (.reg 1007 2 [o1 13 (.mv (.t 0)) 1007,o1 4 (.mv (.t 13)) 1008]) .ret) .skip)) (.seq (.seq (.reg 1009 3 [o1 14 (.mv (.t 5)) 1009,o1 15 (.bin .add (.t 14) (.k (.int .i64 1))) 1010,o1 6 (.mv (.t 15)) 1011]) (.block 0 (.loop (.seq (.seq (.reg 1012 4 [o1 16 (.mv (.t 6)) 1012,o1 17 (.mv (.t 0)) 1013,o1 18 (.len (.t 17)) 1014,o1 19 (.bin .lss (.t 16) (.t 18)) 1015]) (.cond (.t 19) .skip (.exit 0))) (.seq (.block 1 (.seq (.reg 1016 6 [o1 22 (.mv (.t 0)) 1016,
 o1 23 (.mv (.t 6)) 1017,o1 24 (.iaddr 4 (.t 22) (.t 23)) 1018,o1 25 (.load 4 .true (.t 24)) 1019, .mk (.some 7) (.alloc 102 [.string (ByteArray.mk (Array.mk [])), .int .i64 0, .int .i64 0, .int .i64 0]) .none 1020 .none .false [] .false,o2 (.store 4 (.t 7) (.t 25)) 1021]) (.seq (.reg 1022 4 [o1 26 (.mv (.t 1)) 1022,o1 27 (.load 4 .true (.t 7)) 1023,o1 28 (.callv (.t 26) [.t 27]) 1024,o1 29 (.un .not (.t 28)) 1025]) (.cond (.t 29) (.seq (.reg 1026 5 [o1 30 (.mv (.t 0)) 1026,o1 31 (.mv (.t 5)) 1027,
 o1 32 (.load 4 .true (.t 7)) 1028,o1 33 (.iaddr 4 (.t 30) (.t 31)) 1029,o2 (.store 4 (.t 33) (.t 32)) 1030]) (.reg 1031 3 [o1 34 (.mv (.t 5)) 1031,o1 35 (.bin .add (.t 34) (.k (.int .i64 1))) 1032,o1 5 (.mv (.t 35)) 1033])) .skip)))) (.reg 1034 3 [o1 20 (.mv (.t 6)) 1034,o1 21 (.bin .add (.t 20) (.k (.int .i64 1))) 1035,o1 6 (.mv (.t 21)) 1036])))))) (.seq (.reg
 1037 4 [o1 36 (.mv (.t 0)) 1037,o1 37 (.mv (.t 5)) 1038,o1 38 (.slc 4 (.t 36) (.some (.t 37)) .none .none) 1039, .mk .none (.clr [.string (ByteArray.mk (Array.mk [])), .int .i64 0, .int .i64 0, .int .i64 0] (.t 38)) .none 1040 .none .false
 [] .false]) (.seq (.reg 1041 4 [o1 39 (.mv (.t 0)) 1041,o1 40 (.mv (.t 5)) 1042,o1 41 (.slc 4 (.t 39) .none (.some (.t 40)) .none) 1043,o1 4 (.mv (.t 41)) 1044]) .ret)))))
def rs93:List IRes:=[.tmp 4]
set_option maxRecDepth 100000 in
theorem comp93:CompAt Tryz.prog 93 1000 ir93 rs93 42:=⟨⟨_,_,1045,Tryz.func93,rfl,by kernel_rfl,by kernel_rfl,rfl⟩⟩
theorem body93:HasBody Tryz.prog 93:=hasBody_of (by kernel_rfl)

def ir110:IC :=
 .seq (.reg 1000 1 [o1 6 (.mv (.k (.slice .none 0 0))) 1000]) (.seq (.reg 1001 3 [o1 10 (.mv (.t 0)) 1001,
 o1 11 (.mv (.t 1)) 1002,o1 12 (.slc 4 (.t 10) (.some (.t 11)) .none .none) 1003]) (.seq (.reg 1004 3
 [o1 13 (.mv (.t 2)) 1004,o1 14 (.len (.t 13)) 1005,o1 7 (.mv (.t 14)) 1006]) (.seq (.seq (.reg 1007 2 [o1 15 (.mv (.t 7)) 1007,o1 16 (.bin .eql (.t 15) (.k (.int .i64 0))) 1008]) (.cond (.t 16) (.seq (.reg 1009 2 [o1 17 (.mv (.t 0)) 1009,o1 6 (.mv (.t 17)) 1010]) .ret) .skip)) (.seq (.reg 1011 3 [o1 18 (.mv (.t 0)) 1011,o1 19 (.len (.t 18)) 1012,o1 8 (.mv (.t 19)) 1013]) (.seq (.seq (.reg 1014 3 [o1 20 (.mv (.t 1)) 1014,o1 21 (.mv (.t 8)) 1015,o1 22 (.bin .eql (.t 20) (.t 21)) 1016]) (.cond (.t 22) (.seq (.reg 1017 4 [o1 23 (.mv (.t 0)) 1017,o1 24 (.mv (.t 2)) 1018,o1 25 (.apph 102 4 40 (.t 23) (.t 24)) 1019,o1 6 (.mv (.t 25)) 1020]) .ret) .skip)) (.seq (.seq (.reg 1021 6 [o1 26 (.mv (.t 8)) 1021,o1 27 (.mv (.t 7)) 1022,o1 28 (.bin .add (.t 26) (.t 27)) 1023,o1 29 (.mv (.t 0)) 1024,o1 30 (.cap (.t 29)) 1025,o1 31 (.bin .gtr (.t 28) (.t 30)) 1026]) (.cond (.t
 31) (.seq (.reg 1027 10 [o1 32 (.mv (.t 0)) 1027,o1 33 (.mv (.t 1)) 1028,o1 34 (.slc 4 (.t 32) .none (.some (.t 33)) .none) 1029,o1 35 (.mv (.t 8)) 1030,o1 36 (.mv (.t 7)) 1031,o1 37 (.bin .add (.t 35) (.t 36)) 1032,o1 38 (.mv (.t 1)) 1033,o1 39 (.bin .sub (.t 37) (.t 38)) 1034, .mk (.some 40) (.appz 102 4 40 [.string (ByteArray.mk (Array.mk [])), .int .i64 0, .int .i64 0, .int .i64 0] (.t 34) (.t
 39)) .none 1035 .none .false [] .false,o1 9 (.mv (.t 40)) 1036]) (.seq (.reg 1037 5 [o1 41 (.mv (.t 9)) 1037,o1 42 (.mv (.t 1)) 1038,o1 43 (.slc 4 (.t 41) (.some (.t 42)) .none .none) 1039,o1 44 (.mv (.t 2)) 1040,o1 45 (.cpy 4 (.t 43) (.t 44)) 1041]) (.seq (.draw 1042 9 [0,9] [] [o3 46 (.mv (.t 9)) 1042,o3 47 (.mv (.t 1)) 1043,o3 48 (.mv (.t 7)) 1044,o3 49 (.bin .add (.t 47) (.t 48)) 1045,o3 50 (.slc 4 (.t 46) (.some (.t 49)) .none .none) 1046,o3 51 (.mv (.t 0)) 1047,o3 52 (.mv (.t 1)) 1048,o3 53 (.slc 4 (.t 51) (.some (.t 52)) .none .none) 1049,o3 54 (.cpy 4 (.t 50) (.t 53)) 1050]) (.seq (.reg 1051 2 [o1 55 (.mv (.t 9)) 1051,o1 6 (.mv (.t 55)) 1052]) .ret)))) .skip)) (.seq (.reg 1053 6 [o1 56 (.mv (.t 0)) 1053,o1 57 (.mv (.t 8)) 1054,o1 58 (.mv (.t 7)) 1055,o1 59 (.bin .add (.t 57) (.t 58)) 1056,o1 60 (.slc 4 (.t 56) .none (.some (.t 59)) .none) 1057,o1 0 (.mv (.t 60)) 1058]) (.seq (.seq (.reg 1059 8 [o1 61 (.mv (.t 2)) 1059,o1 62 (.mv (.t 0)) 1060,o1 63 (.mv (.t 1)) 1061,o1 64 (.mv (.t 7)) 1062,o1 65 (.bin .add (.t 63) (.t 64)) 1063,o1 66 (.slc 4 (.t 62) (.some (.t 65)) .none .none) 1064,o1 67 (.call 118 [.t 61, .t 66]) 1065,o1 68 (.un .not (.t 67)) 1066]) (.cond (.t 68) (.seq (.draw 1067 9 [0] [] [o3 69 (.mv (.t 0)) 1067,o3 70 (.mv (.t 1)) 1068,o3 71 (.mv (.t 7)) 1069,
 o3 72 (.bin .add (.t 70) (.t 71)) 1070,o3 73 (.slc 4 (.t 69) (.some (.t 72)) .none .none) 1071,o3 74 (.mv (.t 0)) 1072,o3 75 (.mv (.t 1)) 1073,o3 76 (.slc 4 (.t 74) (.some (.t 75)) .none .none) 1074,o3 77 (.cpy 4 (.t 73) (.t 76)) 1075]) (.seq (.reg 1076 5 [o1 78 (.mv (.t 0)) 1076,o1 79 (.mv (.t 1)) 1077,o1 80 (.slc 4 (.t 78) (.some (.t 79)) .none .none) 1078,o1 81 (.mv (.t 2)) 1079,o1 82 (.cpy 4 (.t 80) (.t 81)) 1080]) (.seq (.reg
 1081 2 [o1 83 (.mv (.t 0)) 1081,o1 6 (.mv (.t 83)) 1082]) .ret))) .skip)) (.seq (.reg 1083 5 [o1 84 (.mv (.t 0)) 1083,o1 85 (.mv (.t 8)) 1084,o1 86 (.slc 4 (.t 84) (.some (.t 85)) .none .none) 1085,o1 87 (.mv (.t 2)) 1086,o1 88 (.cpy 4 (.t 86) (.t 87)) 1087]) (.seq (.reg 1088 5 [o1 89 (.mv (.t 0)) 1088,o1 90 (.mv (.t 1)) 1089,o1 91 (.slc 4 (.t 89) (.some (.t 90)) .none .none) 1090,o1 92 (.mv (.t 7)) 1091,o1 93 (.call 119 [.t 91, .t 92]) 1092]) (.seq (.reg 1093 2 [o1 94 (.mv (.t 0)) 1093,o1 6 (.mv (.t 94)) 1094]) .ret)))))))))))
def rs110:List IRes:=[.tmp 6]
set_option maxRecDepth 100000 in
theorem comp110:CompAt Tryz.prog 110 1000 ir110 rs110 95:=⟨⟨_,_,1095,Tryz.func110,rfl,by kernel_rfl,by kernel_rfl,rfl⟩⟩
theorem body110:HasBody Tryz.prog 110:=hasBody_of (by kernel_rfl)

end Go.Proofs.YtfppbjfbghaclaaGreat

namespace Go.Proofs.YtfppbjfbghaclaaGreat
open Go.Pal
def ir70b:IC :=
 .seq (.reg 4 2 [o1 4 (.box 102 (.t 0)) 4,o1 5 (.mv (.k (.slice .none 0 0))) 5]) (.seq (.seq (.reg 6 4
 [o1 11 (.faddr 0 (.t 4)) 6,o1 12 (.faddr 1 (.t 11)) 7,o1 13 (.load 1 .false (.t 12)) 8,o1 14 (.bin .geq (.t 13) (.k (.int .i64 0))) 9]) (.cond (.t 14) (.seq (.reg 10 5 [o1 15 (.faddr 0 (.t 4)) 10,o1 16 (.faddr 1 (.t 15)) 11,o1 17 (.load 1 .false (.t 16)) 12,o1 18 (.bsl 3 1 1 [.int .i64 0] [(0, .t 17)]) 13,o1 5 (.mv (.t 18)) 14]) .ret) .skip)) (.seq (.seq (.reg
 15 10 [o1 20 (.load 1 .false (.t 1)) 15,o1 21 (.faddr 0 (.t 4)) 16,o1 22 (.faddr 2 (.t 21)) 17,o1 23 (.load 1 .false (.t 22)) 18,o1 24 (.lkp 3 (.slice .none 0 0) .true (.t 20) (.t 23)) 19,o1 19 (.mv (.t 24)) 20,o1 25 (.ext (.t 19) 0) 21,o1 26 (.ext (.t 19) 1) 22,o1 6 (.mv (.t 25)) 23,o1 7 (.mv (.t 26)) 24]) (.seq (.reg 25 1
 [o1 27 (.mv (.t 7)) 25]) (.cond (.t 27) (.seq (.reg 26 2 [o1 28 (.mv (.t 6)) 26,o1 5 (.mv (.t 28)) 27]) .ret) .skip))) (.seq (.reg 28 1 [o1 8 (.mv (.k (.slice .none 0 0))) 28]) (.seq (.seq (.reg 29 6 [o1 29 (.load 1 .false (.t 2)) 29,o1 30 (.nilc (.t 29)) 30,o1 31 (.faddr 2 (.t 30)) 31,o1 32 (.load 1 .false (.t 31)) 32,o1 33 (.len (.t 32)) 33,o1 34 (.mv (.k (.int .i64 0))) 34]) (.block 0 (.loop (.seq (.reg 35 1 [o1 35 (.bin .lss (.t 34) (.t 33)) 35]) (.seq (.cond
 (.t 35) .skip (.exit 0)) (.seq (.block 1 (.seq (.reg 36 4 [o1 36 (.iaddr 4 (.t 32) (.t 34)) 36,o1 37 (.load 4 .true (.t 36)) 37, .mk (.some 10) (.alloc 102 [.string (ByteArray.mk (Array.mk [])), .int .i64 0, .int .i64 0, .int .i64 0]) .none 38 .none .false [] .false,o2 (.store 4 (.t 10) (.t 37)) 39]) (.seq (.reg 40 6 [o1 38 (.faddr 3 (.t 10)) 40,o1 39 (.load 1 .false (.t 38)) 41,o1 40 (.faddr 0 (.t 4)) 42,o1 41 (.faddr 2 (.t 40)) 43,o1 42 (.load 1 .false (.t 41)) 44,o1 43 (.bin .eql (.t 39) (.t 42)) 45]) (.cond (.t 43) (.reg 46 6 [o1 44 (.mv (.t 8)) 46,o1 45 (.load 1 .false (.t 3)) 47,o1 46 (.load 4 .true (.t 10)) 48,o1 47 (.callv (.t 45) [.t 46]) 49,o1 48 (.app 3 1 8 (.t 44) (.t 47)) 50,o1 8 (.mv (.t 48)) 51]) .skip)))) (.reg 52 2 [o1 49 (.bin .add (.t 34) (.k (.int .i64 1))) 52,o1 34 (.mv (.t 49)) 53]))))))) (.seq (.drawd 54 7 [] [] [] [.some [1], .none, .none, .some [4], .none, .some [8], .none] [(0,o3 50 (.load 1 .false (.t 1)) 54),(1,o3 51 (.faddr 0 (.t 4)) 55),(2, .mk (.some 52) (.faddr 2 (.t 51)) .none 56
 (.some []) .true [1] .false),(3, .mk (.some 53) (.load 1 .false (.t 52)) .none 57 (.some []) .true [1,2] .false),(4,o3 54 (.mv (.t 8)) 58),(5, .mk (.some 55) (.cut 71 (.t 54) []) .none 59 (.some []) .true [4] .true),(6, .mk .none (.mup 3 (.t 50) (.t 53) (.t 55)) .none 60 (.some []) .true [4,5,2,1,3,0]
 .false)]) (.seq (.reg 61 6 [o1 56 (.load 1 .false (.t 1)) 61,o1 57 (.faddr 0 (.t 4)) 62,o1 58 (.faddr 2 (.t 57)) 63,o1 59 (.load 1 .false (.t 58)) 64,o1 60 (.lkp 3 (.slice .none 0 0) .false (.t 56) (.t 59)) 65,o1 5 (.mv (.t 60)) 66]) .ret))))))
def rs70b:List IRes:=[.tmp 5]
set_option maxRecDepth 100000 in
theorem comp70b:CompAt Tryz.prog 70 4 ir70b rs70b 61:=⟨⟨_,_,67,Tryz.func70,rfl,by kernel_rfl,by kernel_rfl,rfl⟩⟩

def ir16b:IC :=
 .seq (.reg 1000 4 [o1 2 (.box 35 (.t 0)) 1000,o1 4 (.alloc 29 [.slice .none 0 0]) 1001,o1 5 (.mv (.k (.slice .none 0 0))) 1002,o1 6 (.mv (.k (.int .i64 0))) 1003]) (.seq (.reg 1004 11 [o1 18 (.load 2 .true (.t 2)) 1004,o1 19 (.mv (.t 1)) 1005,o1 20 (.call 42 [.t 18, .t 19]) 1006,o1 17 (.mv (.t 20)) 1007,o1 21 (.ext (.t 17) 0) 1008,o1 22 (.ext (.t 17) 1) 1009,o1 23 (.ext (.t 17) 2) 1010,o1 7 (.alloc 92 [.pointer .none]) 1011,o2 (.store 1 (.t 7) (.t 21)) 1012,o1 8 (.mv (.t 22)) 1013,o1 6 (.mv (.t 23)) 1014]) (.seq (.seq (.reg 1015 2 [o1 24 (.mv (.t 6)) 1015,o1 25 (.bin .neq (.t 24) (.k (.int .i64 0))) 1016]) (.cond (.t 25) (.seq (.reg 1017 4 [o1 26 (.mv (.t 6)) 1017,o2 (.store 1 (.t 4) (.k (.slice .none 0 0))) 1018,o1 5 (.mv (.k (.slice .none 0 0))) 1019,o1 6 (.mv (.t 26)) 1020])
 .ret) .skip)) (.seq (.reg 1021 4 [o1 27 (.load 1 .false (.t 7)) 1021,o1 28 (.call 43 [.t 27]) 1022,
 o1 9 (.alloc 95 [.nilFunc]) 1023,o2 (.store 1 (.t 9) (.t 28)) 1024]) (.seq (.reg 1025 3 [o1 29 .mkm 1025,o1 10 (.alloc 97 [.map .none]) 1026,o2 (.store 1 (.t 10) (.t 29)) 1027]) (.seq (.seq (.reg 1028 2 [o1 30 (.load 1 .false (.t 7)) 1028,o1 31 (.call 44 [.t 30]) 1029])
 (.block 0 (.range (.t 31) [32,33] (.reg 1030 1 [o1 12 (.mv (.t 33)) 1030]) (.block 1 (.seq (.draw 1031 10 [] [] [o3 34 (.load 1 .false (.t 9)) 1031,o3 35 (.load 1 .false (.t 7)) 1032,o3 36 (.nilc (.t 35)) 1033,o3 37 (.faddr 2 (.t 36)) 1034,o3 38 (.load 1 .false (.t 37)) 1035,
 o3 39 (.mv (.t 12)) 1036,o3 40 (.iaddr 4 (.t 38) (.t 39)) 1037,o3 41 (.load 4 .true (.t 40)) 1038,o3 42 (.callv (.t 34) [.t 41]) 1039, .mk (.some 13) (.mv (.t 42)) .none 1040 (.some
 [1039]) .true [] .false]) (.seq (.draw 1041 7 [13,2] [] [o3 43 (.load 1 .false (.t 4)) 1041,o3 44 (.load 2 .true (.t 2)) 1042,o3 45 (.mv (.t 13)) 1043,o3 46 (.call 45 [.t 44, .t 45]) 1044, .mk (.some 47) (.bsl 51 4 1 [.slice .none 0 0, .int .i64 0, .int .i64 0, .slice .none 0 0] [(0, .t 46)]) .none 1045 (.some [1044]) .true [] .false, .mk (.some 48) (.apph
 51 4 64 (.t 43) (.t 47)) .none 1046 (.some [0,1044,1045]) .false [] .true, .mk .none (.store 1 (.t 4) (.t 48)) .none 1047 (.some [1045,1044]) .true [] .false]) (.seq (.reg 1048
 3 [o1 49 (.mv (.t 13)) 1048,o1 50 (.len (.t 49)) 1049,o1 51 (.mv (.k (.int .i64 0))) 1050]) (.block 2 (.loop (.seq (.reg 1051 1 [o1 52 (.bin .lss (.t 51) (.t 50)) 1051]) (.seq (.cond (.t 52) .skip (.exit
 2)) (.seq (.block 3 (.seq (.reg 1052 3 [o1 53 (.iaddr 1 (.t 49) (.t 51)) 1052,o1 54 (.load 1 .false (.t 53)) 1053,o1 15 (.mv (.t 54)) 1054]) (.reg 1055 3 [o1 55 (.load 1 .false (.t 10)) 1055,o1 56 (.mv (.t 15)) 1056,o2 (.mup 3 (.t 55) (.t 56) (.k (.bool .true))) 1057]))) (.reg 1058 2 [o1 57 (.bin .add (.t 51) (.k (.int .i64 1))) 1058,o1 51 (.mv (.t 57)) 1059]))))))))))))) (.seq (.seq (.reg 1060 4
 [o1 58 (.faddr 0 (.t 2)) 1060,o1 59 (.load 1 .false (.t 58)) 1061,o1 60 (.len (.t 59)) 1062,o1 61 (.mv (.k (.int .i64 0))) 1063]) (.block 4 (.loop (.seq (.reg 1064 1 [o1 62 (.bin .lss (.t 61) (.t 60)) 1064]) (.seq (.cond (.t 62) .skip (.exit 4)) (.seq (.block 5 (.seq (.reg 1065 2 [o1 63 (.mv (.t 61)) 1065,
 o1 16 (.mv (.t 63)) 1066]) (.seq (.reg 1067 4 [o1 64 (.load 1 .false (.t 10)) 1067,o1 65 (.mv (.t 16)) 1068,o1 66 (.lkp 3 (.bool .false) .false (.t 64) (.t 65)) 1069,o1 67 (.un .not (.t 66)) 1070]) (.cond (.t 67) (.reg 1071 5 [o1 68 (.mv (.t 5)) 1071,o1 69 (.mv (.t 16)) 1072,o1 70 (.bsl 3 1 1 [.int .i64 0] [(0, .t 69)]) 1073,o1 71 (.app 3 1 8 (.t 68) (.t 70)) 1074,o1 5 (.mv (.t 71)) 1075]) .skip)))) (.reg 1076 2 [o1 72 (.bin .add (.t 61) (.k (.int .i64 1))) 1076,o1 61 (.mv (.t 72)) 1077]))))))) (.seq (.reg 1078 5 [o1 73 (.load 1 .false (.t 4)) 1078,o1 74 (.mv (.t 5)) 1079,o2 (.store 1 (.t 4) (.t 73)) 1080,o1 5 (.mv (.t 74)) 1081,o1 6 (.mv (.k (.int .i64 0))) 1082]) .ret)))))))
def rs16b:List IRes:=[.cell 4 1 .false, .tmp 5, .tmp 6]
set_option maxRecDepth 100000 in
theorem comp16b:CompAt Tryz.prog 16 1000 ir16b rs16b 75:=⟨⟨_,_,1083,Tryz.func16,rfl,by kernel_rfl,by kernel_rfl,rfl⟩⟩

end Go.Proofs.YtfppbjfbghaclaaGreat

namespace Go.Proofs.YtfppbjfbghaclaaGreat
open Go.Pal
def ir41x:IC :=
 .seq (.reg 5000 2 [o1 0 (.alloc 35 [.slice .none 0 0, .slice .none 0 0]) 5000,o1 1 (.mv (.k (.slice .none 0 0))) 5001]) (.seq (.reg 5002 1 [o1 2 (.alloc 35 [.slice .none 0 0, .slice .none 0 0]) 5002]) (.seq (.reg 5003 2 [.mk (.some 6) (.bslx
 9 1 6 [.string (ByteArray.mk (Array.mk [])), .string (ByteArray.mk (Array.mk [])), .string (ByteArray.mk (Array.mk [])), .string (ByteArray.mk (Array.mk [])), .string
 (ByteArray.mk (Array.mk [])), .string (ByteArray.mk (Array.mk []))] [(0, .k (.string (ByteArray.mk (Array.mk [116,104,101])))),(1, .k (.string (ByteArray.mk (Array.mk [104,
 111,110,111,117,114,97,98,108,101])))),(2, .k (.string (ByteArray.mk (Array.mk [109,101,109,98,101,114])))),(3, .k (.string (ByteArray.mk (Array.mk [101,114])))),
 (4, .k (.string (ByteArray.mk (Array.mk [115,97,121,115])))),(5, .k (.string (ByteArray.mk (Array.mk [110,111]))))]) .none 5003 .none .false [] .false,o1 3 (.mv (.t 6)) 5004]) (.seq (.reg 5005 2 [o1 7 (.bslx 3 1 6 [.int .i64 0, .int .i64 0, .int .i64 0, .int .i64 0, .int .i64 0, .int .i64 0] [(0, .k (.int .i64 1)),(1, .k (.int .i64 1)),(2, .k (.int .i64 2)),(3, .k (.int .i64 3)),(4, .k (.int .i64 4)),(5, .k (.int .i64 5))]) 5005,o1 4 (.mv (.t 7)) 5006]) (.seq (.seq (.reg 5007 1 [o1 5 (.mv (.k (.int .i64 0))) 5007]) (.block 0 (.loop (.seq (.seq (.reg
 5008 4 [o1 8 (.mv (.t 5)) 5008,o1 9 (.mv (.t 3)) 5009,o1 10 (.len (.t 9)) 5010,o1 11 (.bin .lss (.t 8) (.t 10)) 5011]) (.cond (.t 11) .skip (.exit 0))) (.seq (.block 1 (.draw 5012 15 [] [] [o3 14 (.faddr 0 (.t 2)) 5012,o3 15 (.load 1 .false (.t 14)) 5013,o3 16 (.mv (.t 3)) 5014,o3 17 (.mv (.t 5)) 5015,o3 18 (.iaddr 1 (.t 16) (.t 17)) 5016,o3 19 (.load 1 .false (.t 18)) 5017,o3 20 (.mv (.t 4)) 5018,o3 21 (.mv (.t 5)) 5019,o3 22 (.iaddr 1 (.t 20) (.t 21)) 5020,o3 23 (.load 1 .false (.t 22)) 5021, .mk (.some 24) (.bld [(0,1),(1,1),(2,1)] [.string (ByteArray.mk (Array.mk [])), .int .i64 0, .int .i64 0] [(0, .t 19),(1, .t 23),(2, .k (.int .i64 7))])
 .none 5022 (.some []) .true [] .false, .mk (.some 25) (.bsl 107 3 1 [.string (ByteArray.mk (Array.mk [])), .int .i64 0, .int .i64 0] [(0, .t 24)]) .none 5023 (.some []) .true []
 .false, .mk (.some 26) (.app 107 3 32 (.t 15) (.t 25)) .none 5024 (.some [5023]) .true [] .false, .mk (.some 27) (.faddr 0 (.t 2)) .none 5025 (.some [5024,5023]) .true [] .false,
 .mk .none (.store 1 (.t 27) (.t 26)) .none 5026 (.some [5023,5024]) .true [] .false])) (.reg 5027 3 [o1 12 (.mv (.t 5)) 5027,o1 13 (.bin .add (.t 12) (.k (.int .i64 1))) 5028,o1 5 (.mv (.t 13)) 5029])))))) (.seq (.reg 5030 3 [o1 28 (.bslx 3 1 1 [.int .i64 0] [(0, .k (.int .i64 5))]) 5030,o1 29 (.faddr 1 (.t 2)) 5031,o2 (.store 1 (.t 29) (.t 28)) 5032]) (.seq (.reg 5033 9 [o1 30 (.load 2 .true (.t 2)) 5033,o1 31 (.bld [(0,1),(1,1),(2,1),(3,1)] [.int .i64 0, .int .i64 0, .int .i64 0, .slice .none 0 0] [(1, .k (.int .i64 3)),(2, .k (.int .i64 1))]) 5034, .mk (.some 32) (.bslx
 9 1 1 [.string (ByteArray.mk (Array.mk []))] [(0, .k (.string (ByteArray.mk (Array.mk [116,104,97,116]))))]) .none 5035 .none .false [] .false,o1 33 (.bld [(0,1),(1,1),(2,1),(3,1)] [.int .i64 0, .int .i64 0, .int .i64 0, .slice .none 0 0] [(1, .k (.int .i64 4)),(3, .t 32)]) 5036, .mk (.some 34) (.bslx 9 1
 1 [.string (ByteArray.mk (Array.mk []))] [(0, .k (.string (ByteArray.mk (Array.mk [77,101,109,98,101,114]))))]) .none 5037 .none .false [] .false,o1 35 (.bld [(0,1),(1,1),(2,1),(3,1)] [.int .i64 0, .int .i64 0, .int .i64 0, .slice .none 0 0] [(1, .k (.int .i64 1)),(2, .k (.int .i64 2)),(3, .t 34)]) 5038,o1 36 (.bslx 76 4 3 [.int .i64 0, .int .i64 0, .int .i64 0, .slice .none 0 0, .int .i64 0, .int .i64 0, .int .i64 0, .slice .none 0 0, .int .i64 0, .int .i64 0, .int .i64 0, .slice .none 0 0] [(0, .t 31),(1, .t 33),(2, .t 35)]) 5039,o2 (.store 2 (.t 0) (.t 30)) 5040,o1 1 (.mv (.t 36)) 5041]) .ret))))))
def rs41x:List IRes:=[.cell 0 2 .true, .tmp 1]
set_option maxRecDepth 100000 in
theorem comp41x:CompAt Tryz.prog 41 5000 ir41x rs41x 37:=⟨⟨_,_,5042,Tryz.func41,rfl,by kernel_rfl,by kernel_rfl,rfl⟩⟩

end Go.Proofs.YtfppbjfbghaclaaGreat

namespace Go.Proofs.YtfppbjfbghaclaaGreat
open Go.Pal
end Go.Proofs.YtfppbjfbghaclaaGreat
