/- The intermediate forms of functions of the program (printed by a program of mine), each checked against the code. The intermediate forms of functions of the program (printed by a program of mine), each checked against the code. The intermediate forms of functions of the program (printed by a program of mine), each checked against the code. The intermediate forms of functions of the program (printed by a program of mine), each checked against the code. The intermediate forms of functions of the program (printed by a program of mine), each checked against the code. The intermediate forms of functions of the program (printed by a program of mine), each checked against the code. The intermediate forms of functions of the program (printed by a program of mine), each checked against the code. The intermediate forms of functions of the program (printed by a program of mine), each checked against the code. -/
import Derived.Test.YtfppbjfbghaclaaMC
import Derived.Test.YtfppbjfbghaclaaProg
import Derived.KernelRfl
set_option linter.unusedSimpArgs false
set_option linter.unusedVariables false
namespace Go.Proofs.Ytfppbjfbghaclaa
open Go.Pal
def ir53:IC :=
 .seq (.reg 1000 2 [o1 1 (.box 25 (.t 0)) 1000,o1 2 (.mv (.k (.bool .false))) 1001]) (.seq (.reg 1002 2
 [o1 3 (.alloc 3 [.int .i64 0]) 1002,o2 (.store 1 (.t 3) (.k (.int .i64 0))) 1003]) (.seq (.reg 1004 2
 [o1 7 (.mkf 43 [] [.t 3]) 1004,o1 4 (.mv (.t 7)) 1005]) (.seq (.reg 1006 2 [o1 5 (.alloc 3 [.int .i64 0]) 1006,o2 (.store 1 (.t 5) (.k (.int .i64 (-1)))) 1007]) (.seq (.reg 1008 2 [o1 8 (.mkf 44 [] [.t 5, .t 1]) 1008,o1 6 (.mv (.t 8)) 1009]) (.seq (.reg 1010 17 [o1 9 (.faddr 0 (.t 1)) 1010,o1 10 (.load 1 .false (.t 9)) 1011,o1 11 (.len (.t 10)) 1012,o1 12 (.bin .leq (.t 11) (.k (.int .i64 60))) 1013,o1 13 (.mv (.t 12)) 1014, .mk (.some 14) (.faddr 0 (.t 1)) (.some
 (13, .true)) 1015 .none .false [] .false, .mk (.some 15) (.load 1 .false (.t 14)) (.some (13, .true)) 1016 .none .false [] .false, .mk (.some 16) (.mv (.t 4)) (.some (13, .true))
 1017 .none .false [] .false, .mk (.some 17) (.call 45 [.t 15, .t 16]) (.some (13, .true)) 1018 .none .false [] .false,o1 18 (.pick (.t 13) (.t 17) (.k (.bool .false))) 1019,o1 19 (.mv (.t 18)) 1020, .mk (.some 20) (.faddr 1 (.t 1)) (.some (19, .true)) 1021 .none .false []
 .false, .mk (.some 21) (.load 1 .false (.t 20)) (.some (19, .true)) 1022 .none .false [] .false, .mk (.some 22) (.mv (.t 6)) (.some (19, .true)) 1023 .none .false [] .false, .mk
 (.some 23) (.call 46 [.t 21, .t 22]) (.some (19, .true)) 1024 .none .false [] .false,o1 24 (.pick (.t 19) (.t 23) (.k (.bool .false))) 1025,
 o1 2 (.mv (.t 24)) 1026]) .ret)))))
def rs53:List IRes:=[.tmp 2]
set_option maxRecDepth 100000 in
theorem comp53:CompAt Try.prog 22 1000 ir53 rs53 25:=⟨⟨_,_,1027,Try.func22,rfl,by kernel_rfl,by kernel_rfl,rfl⟩⟩
theorem body53:HasBody Try.prog 22:=hasBody_of (by kernel_rfl)
def ir56:IC :=
 .seq (.reg 1000 1 [o1 3 (.mv (.k (.bool .false))) 1000]) (.seq (.reg 1001 5 [o1 4 (.load 1 .false (.t 1)) 1001,o1 5 (.mv (.t 0)) 1002,o1 6 (.call 16 [.t 4, .t 5]) 1003,o1 7 (.un .not (.t 6)) 1004,o1 3 (.mv (.t 7)) 1005]) .ret)
def rs56:List IRes:=[.tmp 3]
set_option maxRecDepth 100000 in
theorem comp56:CompAt Try.prog 15 1000 ir56 rs56 8:=⟨⟨_,_,1006,Try.func15,rfl,by kernel_rfl,by kernel_rfl,rfl⟩⟩
theorem body56:HasBody Try.prog 15:=hasBody_of (by kernel_rfl)
def ir57:IC :=
 .seq (.reg 1000 2 [o1 3 (.box 3 (.t 1)) 1000,o1 4 (.mv (.k (.bool .false))) 1001]) (.seq (.draw 1002 15
 [3,0] [3] [o3 5 (.mv (.t 0)) 1002,o3 6 (.nilc (.t 5)) 1003,o3 7 (.faddr 3 (.t 6)) 1004,o3 8 (.load 1 .false (.t 7)) 1005,o3 9 (.load 1 .false (.t 3)) 1006,o3 10 (.call 33 [.t 8, .t 9]) 1007, .mk (.some 11) (.mv (.t 10)) .none 1008 (.some [1007]) .true [] .false, .mk (.some
 12) (.mv (.t 0)) (.some (11, .true)) 1009 (.some [1007]) .true [] .false, .mk (.some 13) (.nilc (.t 12)) (.some (11, .true)) 1010 (.some [1007]) .true [] .false, .mk (.some 14)
 (.faddr 2 (.t 13)) (.some (11, .true)) 1011 (.some [1007]) .true [] .false, .mk (.some 15) (.load 1 .false (.t 14)) (.some (11, .true)) 1012 (.some [1007]) .false [] .false, .mk
 (.some 16) (.mkf 35 [] [.t 3]) (.some (11, .true)) 1013 (.some [1007]) .true [] .false, .mk (.some 17) (.call 34 [.t 15, .t 16]) (.some (11, .true)) 1014 (.some [1007]) .false []
 .false, .mk (.some 18) (.pick (.t 11) (.t 17) (.k (.bool .false))) .none 1015 (.some [1014,1007]) .true [] .false, .mk (.some 4) (.mv (.t 18)) .none 1016 (.some [1007,1014])
 .true [] .false]) .ret)
def rs57:List IRes:=[.tmp 4]
set_option maxRecDepth 100000 in
theorem comp57:CompAt Try.prog 16 1000 ir57 rs57 19:=⟨⟨_,_,1017,Try.func16,rfl,by kernel_rfl,by kernel_rfl,rfl⟩⟩
theorem body57:HasBody Try.prog 16:=hasBody_of (by kernel_rfl)
def ir58:IC :=
 .seq (.reg 1000 2 [o1 1 (.box 39 (.t 0)) 1000,o1 2 (.mv (.k (.bool .false))) 1001]) (.seq (.reg 1002 9
 [o1 3 (.faddr 0 (.t 1)) 1002,o1 4 (.load 1 .false (.t 3)) 1003,o1 5 (.call 21 [.t 4, .k (.int .i64 1), .k (.int .i64 4)]) 1004,o1 6 (.mv (.t 5)) 1005, .mk (.some 7) (.faddr 1 (.t 1)) (.some (6,
 .true)) 1006 .none .false [] .false, .mk (.some 8) (.load 1 .false (.t 7)) (.some (6, .true)) 1007 .none .false [] .false, .mk (.some 9) (.call 21 [.t 8, .k (.int .i64 0), .k
 (.int .i64 4)]) (.some (6, .true)) 1008 .none .false [] .false,o1 10 (.pick (.t 6) (.t 9) (.k (.bool .false))) 1009,o1 2 (.mv (.t 10)) 1010]) .ret)
def rs58:List IRes:=[.tmp 2]
set_option maxRecDepth 100000 in
theorem comp58:CompAt Try.prog 20 1000 ir58 rs58 11:=⟨⟨_,_,1011,Try.func20,rfl,by kernel_rfl,by kernel_rfl,rfl⟩⟩
theorem body58:HasBody Try.prog 20:=hasBody_of (by kernel_rfl)
def ir59:IC :=
 .seq (.reg 1000 1 [o1 6 (.mv (.k (.bool .false))) 1000]) (.seq (.reg 1001 10 [o1 7 (.mv (.t 0)) 1001,o1 8 (.len (.t 7)) 1002,o1 9 (.mv (.t 1)) 1003,o1 10 (.mv (.t 2)) 1004,o1 11 (.call 40 [.t 8, .t 9, .t 10]) 1005,o1 12 (.mv (.t 11)) 1006, .mk (.some 13) (.mv (.t
 0)) (.some (12, .true)) 1007 .none .false [] .false, .mk (.some 14) (.call 41 [.t 13, .f 42]) (.some (12, .true)) 1008 .none .false [] .false,o1 15 (.pick (.t 12) (.t 14) (.k (.bool .false))) 1009,o1 6 (.mv (.t 15)) 1010]) .ret)
def rs59:List IRes:=[.tmp 6]
set_option maxRecDepth 100000 in
theorem comp59:CompAt Try.prog 21 1000 ir59 rs59 16:=⟨⟨_,_,1011,Try.func21,rfl,by kernel_rfl,by kernel_rfl,rfl⟩⟩
theorem body59:HasBody Try.prog 21:=hasBody_of (by kernel_rfl)
def ir60:IC :=
 .seq (.reg 1000 2 [o1 3 (.box 74 (.t 1)) 1000,o1 4 (.mv (.k (.bool .false))) 1001]) (.seq (.reg 1002 5
 [o1 5 (.mv (.t 0)) 1002,o1 6 (.mkf 48 [] [.t 3]) 1003,o1 7 (.call 47 [.t 5, .t 6]) 1004,o1 8 (.un .not (.t 7)) 1005,o1 4 (.mv (.t 8)) 1006]) .ret)
def rs60:List IRes:=[.tmp 4]
set_option maxRecDepth 100000 in
theorem comp60:CompAt Try.prog 23 1000 ir60 rs60 9:=⟨⟨_,_,1007,Try.func23,rfl,by kernel_rfl,by kernel_rfl,rfl⟩⟩
theorem body60:HasBody Try.prog 23:=hasBody_of (by kernel_rfl)
def ir61:IC :=
 .seq (.reg 1000 2 [o1 1 (.box 25 (.t 0)) 1000,o1 2 (.mv (.k (.pointer .none))) 1001]) (.seq (.reg 1002 4
 [o1 6 (.load 2 .true (.t 1)) 1002,o1 7 (.bld [(0,2),(2,1),(3,1),(4,1)] [.slice .none 0 0, .slice .none 0 0, .slice .none 0 0, .slice .none 0 0, .int .i64 0] [(0, .t 6)]) 1003,o1 8 (.box 60 (.t 7)) 1004,o1 3 (.mv (.t 8)) 1005]) (.seq (.seq (.reg 1006 4 [o1 9 (.faddr 0 (.t 1)) 1006,o1 10 (.load 1 .false (.t 9)) 1007,o1 11 (.len (.t 10)) 1008,o1 12 (.mv (.k (.int .i64 0))) 1009]) (.block 0
 (.loop (.seq (.reg 1010 1 [o1 13 (.bin .lss (.t 12) (.t 11)) 1010]) (.seq (.cond (.t 13) .skip (.exit 0)) (.seq (.block 1 (.seq (.reg 1011 6
 [o1 14 (.mv (.t 12)) 1011,o1 15 (.iaddr 3 (.t 10) (.t 12)) 1012,o1 16 (.load 3 .true (.t 15)) 1013, .mk (.some 5) (.alloc 51 [.string (ByteArray.mk (Array.mk [])), .int .i64 0, .int .i64 0]) .none 1014 .none .false [] .false,o1 4 (.mv (.t 14)) 1015,o2 (.store 3 (.t 5) (.t 16)) 1016]) (.draw 1017 15 [] [] [o3 17 (.mv (.t 3)) 1017,o3 18 (.mv (.t 3)) 1018,o3 19 (.nilc (.t 18)) 1019,o3 20 (.faddr 2 (.t 19)) 1020,o3 21 (.load 1 .false (.t 20)) 1021,o3 22 (.faddr 0 (.t 5)) 1022,o3 23 (.load 1 .false (.t 22)) 1023,o3 24 (.mv (.t 4)) 1024, .mk (.some 25) (.bld [(0,1),(1,1),(2,1)] [.string (ByteArray.mk (Array.mk [])), .int .i64 0, .int .i64 0] [(0, .t 23),(1, .t 24),(2, .k (.int .i64 0))]) .none
 1025 (.some []) .true [] .false, .mk (.some 26) (.bld [(0,3),(3,1)] [.string (ByteArray.mk (Array.mk [])), .int .i64 0, .int .i64 0, .int .i64 0] [(0, .t 25),(1, .k (.int .i64
 0))]) .none 1026 (.some []) .true [] .false, .mk (.some 27) (.bsl 71 4 1 [.string (ByteArray.mk (Array.mk [])), .int .i64 0, .int .i64 0, .int .i64 0] [(0, .t 26)]) .none 1027
 (.some []) .true [] .false, .mk (.some 28) (.apph 71 4 40 (.t 21) (.t 27)) .none 1028 (.some [0,1027]) .true [] .true, .mk (.some 29) (.nilc (.t 17)) .none 1029 (.some [1027])
 .true [] .false, .mk (.some 30) (.faddr 2 (.t 29)) .none 1030 (.some [1027]) .true [] .false, .mk .none (.store 1 (.t 30) (.t 28)) .none 1031 (.some [1027]) .true [] .false])))
 (.reg 1032 2 [o1 31 (.bin .add (.t 12) (.k (.int .i64 1))) 1032,o1 12 (.mv (.t 31)) 1033]))))))) (.seq
 (.reg 1034 2 [o1 32 (.mv (.t 3)) 1034,o1 2 (.mv (.t 32)) 1035]) .ret)))
def rs61:List IRes:=[.tmp 2]
set_option maxRecDepth 100000 in
theorem comp61:CompAt Try.prog 24 1000 ir61 rs61 33:=⟨⟨_,_,1036,Try.func24,rfl,by kernel_rfl,by kernel_rfl,rfl⟩⟩
theorem body61:HasBody Try.prog 24:=hasBody_of (by kernel_rfl)
def ir65:IC :=
 .seq (.reg 1000 1 [o1 3 (.box 45 (.t 1)) 1000]) (.seq (.reg 1001 3 [o1 14 (.mv (.t 0)) 1001,o1 15 (.call 49 [.t 14]) 1002,o1 4 (.mv (.t 15)) 1003]) (.seq (.reg 1004 33 [o1 16 (.faddr 1 (.t 3)) 1004,o1 17 (.load 1 .false (.t 16)) 1005,o1 18 (.bin .geq (.t 17) (.k (.int .i64 0))) 1006,o1 19 (.mv (.t 18)) 1007, .mk (.some 20) (.faddr 2 (.t 3)) (.some (19, .true)) 1008 .none .false [] .false, .mk
 (.some 21) (.load 1 .false (.t 20)) (.some (19, .true)) 1009 .none .false [] .false, .mk (.some 22) (.call 40 [.t 21, .k (.int .i64 0), .k (.int .i64 4)]) (.some (19, .true)) 1010
 .none .false [] .false,o1 23 (.pick (.t 19) (.t 22) (.k (.bool .false))) 1011,o1 24 (.mv (.t 23)) 1012, .mk (.some 25) (.faddr 1 (.t 3)) (.some (24, .true)) 1013 .none .false [] .false, .mk (.some 26) (.load 1 .false (.t 25)) (.some (24, .true)) 1014 .none .false [] .false,
 .mk (.some 27) (.mv (.t 4)) (.some (24, .true)) 1015 .none .false [] .false, .mk (.some 28) (.len (.t 27)) (.some (24, .true)) 1016 .none .false [] .false, .mk (.some 29) (.faddr
 2 (.t 3)) (.some (24, .true)) 1017 .none .false [] .false, .mk (.some 30) (.load 1 .false (.t 29)) (.some (24, .true)) 1018 .none .false [] .false, .mk (.some 31) (.bin .sub (.t
 28) (.t 30)) (.some (24, .true)) 1019 .none .false [] .false, .mk (.some 32) (.bin .leq (.t 26) (.t 31)) (.some (24, .true)) 1020 .none .false [] .false,o1 33 (.pick (.t 24) (.t 32) (.k (.bool .false))) 1021,o1 34 (.mv (.t 33)) 1022, .mk (.some 35) (.faddr 3 (.t 3)) (.some (34,
 .true)) 1023 .none .false [] .false, .mk (.some 36) (.load 1 .false (.t 35)) (.some (34, .true)) 1024 .none .false [] .false, .mk (.some 37) (.call 21 [.t 36, .k (.int .i64 0), .k
 (.int .i64 4)]) (.some (34, .true)) 1025 .none .false [] .false,o1 38 (.pick (.t 34) (.t 37) (.k (.bool .false))) 1026,o1 39 (.mv (.t 38)) 1027, .mk (.some 40) (.faddr 2 (.t 3)) (.some (39, .true)) 1028 .none .false [] .false, .mk (.some 41) (.load 1 .false (.t 40)) (.some (39,
 .true)) 1029 .none .false [] .false, .mk (.some 42) (.faddr 3 (.t 3)) (.some (39, .true)) 1030 .none .false [] .false, .mk (.some 43) (.load 1 .false (.t 42)) (.some (39, .true))
 1031 .none .false [] .false, .mk (.some 44) (.len (.t 43)) (.some (39, .true)) 1032 .none .false [] .false, .mk (.some 45) (.bin .add (.t 41) (.t 44)) (.some (39, .true)) 1033
 .none .false [] .false, .mk (.some 46) (.bin .gtr (.t 45) (.k (.int .i64 0))) (.some (39, .true)) 1034 .none .false [] .false,o1 47 (.pick (.t 39) (.t 46) (.k (.bool .false))) 1035,o1 48 (.call 51 [.t 47]) 1036]) (.seq (.reg 1037 6 [o1 49 (.mv (.t 0)) 1037,o1 50 (.nilc (.t 49)) 1038,o1 51 (.faddr 4 (.t 50)) 1039,o1 52 (.load 1 .false (.t 51)) 1040,o1 53 (.bin .add (.t 52) (.k (.int .i64 1))) 1041,o1 5 (.mv (.t 53)) 1042]) (.seq (.reg 1043 1 [o1 6 (.mv (.k (.int .i64 0))) 1043]) (.seq (.seq (.reg 1044 3 [o1 54 (.faddr 2 (.t 3)) 1044,o1 55 (.load 1 .false (.t 54)) 1045,o1 56 (.bin .gtr (.t 55) (.k (.int .i64 0))) 1046]) (.cond (.t 56) (.reg 1047 6 [o1 57 (.mv (.t 4)) 1047,o1 58 (.faddr 1 (.t 3)) 1048,o1 59 (.load 1 .false (.t 58)) 1049,o1 60 (.iaddr 1 (.t 57) (.t 59)) 1050,o1 61 (.load 1 .false (.t 60)) 1051,o1 6 (.mv (.t 61)) 1052]) (.seq (.reg 1053 3 [o1 62 (.faddr 1 (.t 3)) 1053,o1 63 (.load 1 .false (.t 62)) 1054,o1 64 (.bin .gtr (.t 63) (.k (.int .i64 0))) 1055]) (.cond (.t 64) (.reg 1056 8 [o1 65 (.mv (.t 4)) 1056,o1 66 (.faddr 1 (.t 3)) 1057,o1 67 (.load 1 .false (.t 66)) 1058,o1 68 (.bin .sub (.t 67) (.k (.int .i64 1))) 1059,o1 69 (.iaddr 1 (.t 65) (.t 68)) 1060,o1 70 (.load 1 .false (.t 69)) 1061,o1 71 (.bin .add (.t 70) (.k (.int .i64 1))) 1062,o1 6 (.mv (.t 71)) 1063]) .skip)))) (.seq (.seq (.reg 1064 11 [o1 72 (.mv (.t 4)) 1064,o1 73 (.faddr 1 (.t 3)) 1065,o1 74 (.load 1 .false (.t 73)) 1066,o1 75 (.faddr 1 (.t 3)) 1067,o1 76 (.load 1 .false (.t 75)) 1068,o1 77 (.faddr 2 (.t 3)) 1069,o1 78 (.load 1 .false (.t 77)) 1070,o1 79 (.bin .add (.t 76) (.t 78)) 1071,o1 80 (.slc 1 (.t 72) (.some (.t 74)) (.some (.t 79)) .none) 1072,o1 81 (.len (.t 80)) 1073,o1 82 (.mv (.k (.int .i64 0))) 1074]) (.block 0 (.loop (.seq (.reg 1075 1 [o1 83 (.bin .lss (.t 82) (.t 81)) 1075]) (.seq (.cond (.t 83) .skip (.exit 0)) (.seq (.block 1 (.seq (.reg 1076 3 [o1 84 (.iaddr 1 (.t 80) (.t 82)) 1076,o1 85 (.load 1 .false (.t 84)) 1077,o1 8 (.mv (.t 85)) 1078]) (.reg 1079 11 [o1 86 (.mv (.t 0)) 1079,o1 87 (.mv (.t 0)) 1080,o1 88 (.nilc (.t 87)) 1081,o1 89 (.faddr 2 (.t 88)) 1082,o1 90 (.load 1 .false (.t 89)) 1083,o1 91 (.mv (.t 8)) 1084,o1 92 (.iaddr 4 (.t 90) (.t 91)) 1085,o1 93 (.load 4 .true (.t 92)) 1086,o1 94 (.call 52 [.t 86, .t 93]) 1087,o1 95 (.un .not (.t 94)) 1088,o1 96 (.call 51 [.t 95]) 1089]))) (.reg 1090 2 [o1 97 (.bin .add (.t 82) (.k (.int .i64 1))) 1090,o1 82 (.mv (.t 97)) 1091]))))))) (.seq (.seq (.reg 1092 11 [o1 98 (.mv (.t 4)) 1092,o1 99 (.faddr 1 (.t 3)) 1093,o1 100 (.load 1 .false (.t 99)) 1094,o1 101 (.faddr 1 (.t 3)) 1095,o1 102 (.load 1 .false (.t 101)) 1096,o1 103 (.faddr 2 (.t 3)) 1097,o1 104 (.load 1 .false (.t 103)) 1098,o1 105 (.bin .add (.t 102) (.t 104)) 1099,o1 106 (.slc 1 (.t 98) (.some (.t 100)) (.some (.t 105)) .none) 1100,o1 107 (.len (.t 106)) 1101,o1 108 (.mv (.k (.int .i64 0))) 1102])
 (.block 2 (.loop (.seq (.reg 1103 1 [o1 109 (.bin .lss (.t 108) (.t 107)) 1103]) (.seq (.cond (.t 109) .skip (.exit 2)) (.seq (.block 3 (.seq
 (.reg 1104 3 [o1 110 (.iaddr 1 (.t 106) (.t 108)) 1104,o1 111 (.load 1 .false (.t 110)) 1105,o1 10 (.mv (.t 111)) 1106]) (.reg 1107 9 [o1 112 (.mv (.t 0)) 1107,o1 113 (.nilc (.t 112)) 1108,o1 114 (.faddr 2 (.t 113)) 1109,o1 115 (.load 1 .false (.t 114)) 1110,
 o1 116 (.mv (.t 10)) 1111,o1 117 (.mv (.t 5)) 1112,o1 118 (.iaddr 4 (.t 115) (.t 116)) 1113,o1 119 (.faddr 3 (.t 118)) 1114,o2 (.store 1 (.t 119) (.t 117)) 1115])))
 (.reg 1116 2 [o1 120 (.bin .add (.t 108) (.k (.int .i64 1))) 1116,o1 108 (.mv (.t 120)) 1117])))))))
 (.seq (.reg 1118 1 [o1 11 (.mv (.k (.slice .none 0 0))) 1118]) (.seq (.seq (.reg 1119 4 [o1 121 (.faddr 3 (.t 3)) 1119,o1 122 (.load 1 .false (.t 121)) 1120,o1 123 (.len (.t 122)) 1121,o1 124 (.mv (.k (.int .i64 0))) 1122]) (.block 4 (.loop (.seq (.reg 1123 1 [o1 125 (.bin .lss (.t 124) (.t 123)) 1123])
 (.seq (.cond (.t 125) .skip (.exit 4)) (.seq (.block 5 (.seq (.reg 1124 3 [o1 126 (.iaddr 1 (.t 122) (.t 124)) 1124,o1 127 (.load 1 .false (.t 126)) 1125,o1 13 (.mv (.t 127)) 1126]) (.reg 1127 8 [o1 128 (.mv (.t 11)) 1127,o1 129 (.mv (.t 13)) 1128,o1 130 (.mv (.t 5)) 1129, .mk (.some 131) (.bld [(0,1),
 (1,1),(2,1)] [.string (ByteArray.mk (Array.mk [])), .int .i64 0, .int .i64 0] [(0, .t 129),(1, .k (.int .i64 (-1))),(2, .t 130)]) .none 1130 .none .false [] .false, .mk
 (.some 132) (.bld [(0,3),(3,1)] [.string (ByteArray.mk (Array.mk [])), .int .i64 0, .int .i64 0, .int .i64 0] [(0, .t 131),(1, .k (.int .i64 0))]) .none 1131 .none .false []
 .false, .mk (.some 133) (.bsl 71 4 1 [.string (ByteArray.mk (Array.mk [])), .int .i64 0, .int .i64 0, .int .i64 0] [(0, .t 132)]) .none 1132 .none .false [] .false,o1 134 (.app 71 4 40 (.t 128) (.t 133)) 1133,o1 11 (.mv (.t 134)) 1134]))) (.reg 1135 2 [o1 135 (.bin .add (.t 124) (.k (.int .i64 1))) 1135,o1 124 (.mv (.t 135)) 1136]))))))) (.seq (.reg 1137 4 [o1 136 (.mv (.t 0)) 1137,o1 137 (.mv (.t 6)) 1138,o1 138 (.mv (.t 11)) 1139,
 o1 139 (.call 53 [.t 136, .t 137, .t 138]) 1140]) (.reg 1141 16 [o1 140 (.mv (.t 0)) 1141,o1 141 (.mv (.t 0)) 1142,o1 142 (.mv (.t 5)) 1143,o1 143 (.mv (.t 0)) 1144,o1 144 (.nilc (.t 143)) 1145,o1 145 (.faddr 3 (.t 144)) 1146,o1 146 (.load 1 .false (.t 145)) 1147,o1 147 (.mv (.t 5)) 1148,o1 148 (.bsl 3 1 1 [.int .i64 0] [(0, .t 147)]) 1149,o1 149 (.apph 3 1 8 (.t 146) (.t 148)) 1150,o1 150 (.nilc (.t 140)) 1151,o1 151 (.faddr 4 (.t 150)) 1152,o2 (.store 1 (.t 151) (.t 142)) 1153,o1 152 (.nilc (.t 141)) 1154,o1 153 (.faddr 3 (.t 152)) 1155,o2 (.store 1 (.t 153) (.t 149)) 1156])))))))))))
def rs65:List IRes:=[]
set_option maxRecDepth 100000 in
theorem comp65:CompAt Try.prog 28 1000 ir65 rs65 154:=⟨⟨_,_,1157,Try.func28,rfl,by kernel_rfl,by kernel_rfl,rfl⟩⟩
theorem body65:HasBody Try.prog 28:=hasBody_of (by kernel_rfl)
def ir69:IC :=
 .seq (.reg 1000 1 [o1 3 (.box 45 (.t 1)) 1000]) (.seq (.reg 1001 5 [o1 5 (.mv (.t 0)) 1001,o1 6 (.faddr 0 (.t 3)) 1002,o1 7 (.load 1 .false (.t 6)) 1003,o1 8 (.call 16 [.t 5, .t 7]) 1004,o1 9 (.call 51 [.t 8]) 1005]) (.seq (.reg 1006 10 [o1 10 (.mv (.t 0)) 1006,o1 11 (.mv (.t 0)) 1007,o1 12 (.nilc (.t 11)) 1008,o1 13 (.faddr 2 (.t 12)) 1009,o1 14 (.load 1 .false (.t 13)) 1010,o1 15 (.mkf 55 [] [.t 3]) 1011,o1 16 (.call 54 [.t 14, .t 15]) 1012,o1 17 (.nilc (.t 10)) 1013,o1 18 (.faddr 2 (.t 17)) 1014,o2 (.store 1 (.t 18) (.t 16)) 1015]) (.seq (.seq (.reg 1016 6 [o1 19 (.mv (.t 0)) 1016,
 o1 20 (.nilc (.t 19)) 1017,o1 21 (.faddr 2 (.t 20)) 1018,o1 22 (.load 1 .false (.t 21)) 1019,o1 23 (.len (.t 22)) 1020,o1 24 (.mv (.k (.int .i64 0))) 1021])
 (.block 0 (.loop (.seq (.reg 1022 1 [o1 25 (.bin .lss (.t 24) (.t 23)) 1022]) (.seq (.cond (.t 25) .skip (.exit 0)) (.seq (.block 1 (.seq
 (.reg 1023 2 [o1 26 (.mv (.t 24)) 1023,o1 4 (.mv (.t 26)) 1024]) (.seq (.draw 1025 11 [] [] [o3 27 (.mv (.t 0)) 1025,o3 28 (.nilc (.t 27)) 1026,o3 29 (.faddr 2 (.t 28)) 1027,o3 30 (.load 1 .false (.t 29)) 1028,o3 31 (.mv (.t 4)) 1029,o3 32 (.iaddr 4 (.t 30) (.t 31)) 1030,o3 33 (.faddr 3 (.t 32)) 1031,o3 34 (.load 1 .false (.t 33)) 1032,o3 35 (.faddr 0 (.t 3)) 1033,o3 36 (.load 1 .false (.t 35)) 1034,o3 37 (.bin .eql (.t 34) (.t 36)) 1035]) (.cond (.t 37) (.reg 1036 8 [o1 38 (.mv (.t 0)) 1036,o1 39 (.nilc (.t 38)) 1037,o1 40 (.faddr 2 (.t 39)) 1038,o1 41 (.load 1 .false (.t 40)) 1039,o1 42 (.mv (.t 4)) 1040,o1 43 (.iaddr 4 (.t 41) (.t 42)) 1041,o1 44 (.faddr 3 (.t 43)) 1042,o2 (.store 1 (.t 44) (.k (.int .i64 0))) 1043])
 .skip)))) (.reg 1044 2 [o1 45 (.bin .add (.t 24) (.k (.int .i64 1))) 1044,o1 24 (.mv (.t 45)) 1045]))))))) (.reg 1046 10 [o1 46 (.mv (.t 0)) 1046,o1 47 (.mv (.t 0)) 1047,o1 48 (.nilc (.t 47)) 1048,o1 49 (.faddr 3 (.t 48)) 1049,o1 50 (.load 1 .false (.t 49)) 1050,o1 51 (.mkf 56 [] [.t 3]) 1051,o1 52 (.call 14 [.t 50, .t 51]) 1052,o1 53 (.nilc (.t 46)) 1053,o1 54 (.faddr 3 (.t 53)) 1054,o2 (.store 1 (.t 54) (.t 52)) 1055]))))
def rs69:List IRes:=[]
set_option maxRecDepth 100000 in
theorem comp69:CompAt Try.prog 31 1000 ir69 rs69 55:=⟨⟨_,_,1056,Try.func31,rfl,by kernel_rfl,by kernel_rfl,rfl⟩⟩
theorem body69:HasBody Try.prog 31:=hasBody_of (by kernel_rfl)
def ir75:IC :=
 .seq (.reg 1000 2 [o1 2 (.box 51 (.t 0)) 1000,o1 3 (.mv (.k (.bool .false))) 1001]) (.seq (.reg 1002 15
 [o1 5 (.faddr 0 (.t 2)) 1002,o1 6 (.load 1 .false (.t 5)) 1003,o1 7 (.call 42 [.t 6]) 1004,o1 8 (.mv (.t 7)) 1005, .mk (.some 9) (.faddr 1 (.t 2)) (.some (8, .true)) 1006 .none .false [] .false, .mk
 (.some 10) (.load 1 .false (.t 9)) (.some (8, .true)) 1007 .none .false [] .false, .mk (.some 11) (.load 1 .false (.t 1)) (.some (8, .true)) 1008 .none .false [] .false, .mk
 (.some 12) (.call 40 [.t 10, .t 11, .k (.int .i64 36000)]) (.some (8, .true)) 1009 .none .false [] .false,o1 13 (.pick (.t 8) (.t 12) (.k (.bool .false))) 1010,o1 14 (.mv (.t 13)) 1011, .mk (.some 15) (.faddr 2 (.t 2)) (.some (14, .true)) 1012 .none .false [] .false, .mk
 (.some 16) (.load 1 .false (.t 15)) (.some (14, .true)) 1013 .none .false [] .false, .mk (.some 17) (.call 40 [.t 16, .k (.int .i64 0), .k (.int .i64 99)]) (.some (14, .true))
 1014 .none .false [] .false,o1 18 (.pick (.t 14) (.t 17) (.k (.bool .false))) 1015,o1 4 (.mv (.t 18)) 1016]) (.seq (.reg 1017 3 [o1 19 (.faddr 1 (.t 2)) 1017,o1 20 (.load 1 .false (.t 19)) 1018,o2 (.store 1 (.t 1) (.t 20)) 1019]) (.seq (.reg 1020 2 [o1 21 (.mv (.t 4)) 1020,o1 3 (.mv (.t 21)) 1021]) .ret)))
def rs75:List IRes:=[.tmp 3]
set_option maxRecDepth 100000 in
theorem comp75:CompAt Try.prog 43 1000 ir75 rs75 22:=⟨⟨_,_,1022,Try.func43,rfl,by kernel_rfl,by kernel_rfl,rfl⟩⟩
theorem body75:HasBody Try.prog 43:=hasBody_of (by kernel_rfl)
def ir76:IC :=
 .seq (.reg 1000 1 [o1 2 (.mv (.k (.bool .false))) 1000]) (.seq (.reg 1001 9 [o1 3 (.mv (.t 0)) 1001,o1 4 (.lenS (.t 3)) 1002,o1 5 (.call 40 [.t 4, .k (.int .i64 1), .k (.int .i64 32)]) 1003,o1 6 (.mv (.t 5)) 1004, .mk (.some 7) (.mv (.t 0)) (.some (6, .true)) 1005 .none .false [] .false, .mk (.some 8) (.s2b 5 (.t 7)) (.some (6, .true)) 1006
 .none .false [] .false, .mk (.some 9) (.call 64 [.t 8, .f 65]) (.some (6, .true)) 1007 .none .false [] .false,o1 10 (.pick (.t 6) (.t 9) (.k (.bool .false))) 1008,o1 2 (.mv (.t 10)) 1009]) .ret)
def rs76:List IRes:=[.tmp 2]
set_option maxRecDepth 100000 in
theorem comp76:CompAt Try.prog 42 1000 ir76 rs76 11:=⟨⟨_,_,1010,Try.func42,rfl,by kernel_rfl,by kernel_rfl,rfl⟩⟩
theorem body76:HasBody Try.prog 42:=hasBody_of (by kernel_rfl)
def ir78:IC :=
 .seq (.reg 1000 1 [o1 4 (.mv (.k (.bool .false))) 1000]) (.seq (.reg 1001 9 [o1 6 (.mv (.t 0)) 1001,o1 7 (.load 1 .false (.t 1)) 1002,o1 8 (.bin .add (.t 7) (.k (.int .i64 1))) 1003,o1 9 (.faddr 0 (.t 2)) 1004,o1 10 (.load 1 .false (.t 9)) 1005,o1 11 (.len (.t 10)) 1006,o1 12 (.bin .sub (.t 11) (.k (.int .i64 1))) 1007,o1 13 (.call 40 [.t 6, .t 8, .t 12]) 1008,
 o1 5 (.mv (.t 13)) 1009]) (.seq (.reg 1010 2 [o1 14 (.mv (.t 0)) 1010,o2 (.store 1 (.t 1) (.t 14)) 1011]) (.seq (.reg 1012 2 [o1 15 (.mv (.t 5)) 1012,o1 4 (.mv (.t 15)) 1013]) .ret)))
def rs78:List IRes:=[.tmp 4]
set_option maxRecDepth 100000 in
theorem comp78:CompAt Try.prog 44 1000 ir78 rs78 16:=⟨⟨_,_,1014,Try.func44,rfl,by kernel_rfl,by kernel_rfl,rfl⟩⟩
theorem body78:HasBody Try.prog 44:=hasBody_of (by kernel_rfl)
def ir79:IC :=
 .seq (.reg 1000 2 [o1 3 (.box 98 (.t 1)) 1000,o1 4 (.mv (.k (.bool .false))) 1001]) (.seq (.reg 1002 5
 [o1 5 (.mv (.t 0)) 1002,o1 6 (.mkf 67 [] [.t 3]) 1003,o1 7 (.call 66 [.t 5, .t 6]) 1004,o1 8 (.un .not (.t 7)) 1005,o1 4 (.mv (.t 8)) 1006]) .ret)
def rs79:List IRes:=[.tmp 4]
set_option maxRecDepth 100000 in
theorem comp79:CompAt Try.prog 45 1000 ir79 rs79 9:=⟨⟨_,_,1007,Try.func45,rfl,by kernel_rfl,by kernel_rfl,rfl⟩⟩
theorem body79:HasBody Try.prog 45:=hasBody_of (by kernel_rfl)
def ir80:IC :=
 .seq (.reg 1000 2 [o1 3 (.box 61 (.t 1)) 1000,o1 4 (.mv (.k (.bool .false))) 1001]) (.seq (.reg 1002 5
 [o1 5 (.mv (.t 0)) 1002,o1 6 (.mkf 69 [] [.t 3]) 1003,o1 7 (.call 68 [.t 5, .t 6]) 1004,o1 8 (.un .not (.t 7)) 1005,o1 4 (.mv (.t 8)) 1006]) .ret)
def rs80:List IRes:=[.tmp 4]
set_option maxRecDepth 100000 in
theorem comp80:CompAt Try.prog 46 1000 ir80 rs80 9:=⟨⟨_,_,1007,Try.func46,rfl,by kernel_rfl,by kernel_rfl,rfl⟩⟩
theorem body80:HasBody Try.prog 46:=hasBody_of (by kernel_rfl)
def ir81:IC :=
 .seq (.reg 1000 1 [o1 4 (.mv (.k (.int .i64 0))) 1000]) (.seq (.seq (.reg 1001 3 [o1 6 (.mv (.t 0)) 1001,
 o1 7 (.len (.t 6)) 1002,o1 8 (.mv (.k (.int .i64 0))) 1003]) (.block 0 (.loop (.seq (.reg 1004 1 [o1 9 (.bin .lss (.t 8) (.t 7)) 1004]) (.seq (.cond (.t 9) .skip (.exit 0)) (.seq (.block 1 (.seq (.reg 1005 2 [o1 10 (.mv (.t 8)) 1005,o1 5 (.mv (.t 10)) 1006]) (.seq (.reg 1007 6 [o1 11 (.mv (.t 1)) 1007,o1 12 (.mv (.t 0)) 1008,o1 13 (.mv (.t 5)) 1009,o1 14 (.iaddr 1 (.t 12) (.t 13)) 1010,o1 15 (.load 1 .false (.t 14)) 1011,o1 16 (.callv (.t 11) [.t 15]) 1012])
 (.cond (.t 16) (.seq (.reg 1013 2 [o1 17 (.mv (.t 5)) 1013,o1 4 (.mv (.t 17)) 1014]) .ret) .skip))))
 (.reg 1015 2 [o1 18 (.bin .add (.t 8) (.k (.int .i64 1))) 1015,o1 8 (.mv (.t 18)) 1016]))))))) (.seq
 (.reg 1017 1 [o1 4 (.mv (.k (.int .i64 (-1)))) 1017]) .ret))
def rs81:List IRes:=[.tmp 4]
set_option maxRecDepth 100000 in
theorem comp81:CompAt Try.prog 32 1000 ir81 rs81 19:=⟨⟨_,_,1018,Try.func32,rfl,by kernel_rfl,by kernel_rfl,rfl⟩⟩
theorem body81:HasBody Try.prog 32:=hasBody_of (by kernel_rfl)
def ir83:IC :=
 .seq (.reg 1000 2 [o1 3 (.box 90 (.t 1)) 1000,o1 4 (.mv (.k (.bool .false))) 1001]) (.seq (.reg 1002 5
 [o1 5 (.mv (.t 0)) 1002,o1 6 (.mkf 59 [] [.t 3]) 1003,o1 7 (.call 58 [.t 5, .t 6]) 1004,o1 8 (.un .not (.t 7)) 1005,o1 4 (.mv (.t 8)) 1006]) .ret)
def rs83:List IRes:=[.tmp 4]
set_option maxRecDepth 100000 in
theorem comp83:CompAt Try.prog 34 1000 ir83 rs83 9:=⟨⟨_,_,1007,Try.func34,rfl,by kernel_rfl,by kernel_rfl,rfl⟩⟩
theorem body83:HasBody Try.prog 34:=hasBody_of (by kernel_rfl)
def ir84:IC :=
 .seq (.reg 1000 2 [o1 2 (.box 71 (.t 0)) 1000,o1 3 (.mv (.k (.bool .false))) 1001]) (.seq (.reg 1002 11
 [o1 4 (.faddr 0 (.t 2)) 1002,o1 5 (.faddr 2 (.t 4)) 1003,o1 6 (.load 1 .false (.t 5)) 1004,o1 7 (.load 1 .false (.t 1)) 1005,o1 8 (.bin .neq (.t 6) (.t 7)) 1006,
 o1 9 (.mv (.t 8)) 1007, .mk (.some 10) (.faddr 3 (.t 2)) (.some (9, .false)) 1008 .none .false [] .false, .mk (.some 11) (.load 1 .false (.t
 10)) (.some (9, .false)) 1009 .none .false [] .false, .mk (.some 12) (.bin .eql (.t 11) (.k (.int .i64 0))) (.some (9, .false)) 1010 .none .false [] .false,o1 13 (.pick (.t 9) (.k (.bool .true)) (.t 12)) 1011,o1 3 (.mv (.t 13)) 1012]) .ret)
def rs84:List IRes:=[.tmp 3]
set_option maxRecDepth 100000 in
theorem comp84:CompAt Try.prog 35 1000 ir84 rs84 14:=⟨⟨_,_,1013,Try.func35,rfl,by kernel_rfl,by kernel_rfl,rfl⟩⟩
theorem body84:HasBody Try.prog 35:=hasBody_of (by kernel_rfl)
def ir85:IC :=
 .seq (.reg 1000 2 [o1 3 (.box 97 (.t 1)) 1000,o1 4 (.mv (.k (.bool .false))) 1001]) (.seq (.reg 1002 5
 [o1 5 (.mv (.t 0)) 1002,o1 6 (.mkf 63 [] [.t 3]) 1003,o1 7 (.call 62 [.t 5, .t 6]) 1004,o1 8 (.un .not (.t 7)) 1005,o1 4 (.mv (.t 8)) 1006]) .ret)
def rs85:List IRes:=[.tmp 4]
set_option maxRecDepth 100000 in
theorem comp85:CompAt Try.prog 41 1000 ir85 rs85 9:=⟨⟨_,_,1007,Try.func41,rfl,by kernel_rfl,by kernel_rfl,rfl⟩⟩
theorem body85:HasBody Try.prog 41:=hasBody_of (by kernel_rfl)
def ir86:IC :=
 .seq (.reg 1000 1 [o1 4 (.mv (.k (.bool .false))) 1000]) (.seq (.reg 1001 5 [o1 5 (.mv (.t 0)) 1001,o1 6 (.mv (.t 1)) 1002,o1 7 (.call 70 [.t 5, .t 6]) 1003,o1 8 (.bin .geq (.t 7) (.k (.int .i64 0))) 1004,o1 4 (.mv (.t 8)) 1005]) .ret)
def rs86:List IRes:=[.tmp 4]
set_option maxRecDepth 100000 in
theorem comp86:CompAt Try.prog 47 1000 ir86 rs86 9:=⟨⟨_,_,1006,Try.func47,rfl,by kernel_rfl,by kernel_rfl,rfl⟩⟩
theorem body86:HasBody Try.prog 47:=hasBody_of (by kernel_rfl)
def ir87:IC :=
 .seq (.reg 1000 2 [o1 2 (.box 39 (.t 0)) 1000,o1 3 (.mv (.k (.bool .false))) 1001]) (.seq (.reg 1002 5
 [o1 4 (.load 1 .false (.t 1)) 1002,o1 5 (.load 2 .true (.t 2)) 1003,o1 6 (.callv (.t 4) [.t 5]) 1004,o1 7 (.un .not (.t 6)) 1005,o1 3 (.mv (.t 7)) 1006]) .ret)
def rs87:List IRes:=[.tmp 3]
set_option maxRecDepth 100000 in
theorem comp87:CompAt Try.prog 48 1000 ir87 rs87 8:=⟨⟨_,_,1007,Try.func48,rfl,by kernel_rfl,by kernel_rfl,rfl⟩⟩
theorem body87:HasBody Try.prog 48:=hasBody_of (by kernel_rfl)
def ir91:IC :=
 .seq (.reg 1000 2 [o1 3 (.box 71 (.t 1)) 1000,o1 4 (.mv (.k (.bool .false))) 1001]) (.seq (.draw 1002
 10 [3,0] [] [o3 5 (.mv (.t 0)) 1002,o3 6 (.nilc (.t 5)) 1003,o3 7 (.faddr 0 (.t 6)) 1004,o3 8 (.faddr 1 (.t 7)) 1005,o3 9 (.load 1 .false (.t 8)) 1006,o3 10 (.faddr 0 (.t 3)) 1007,o3 11 (.faddr 1 (.t 10)) 1008,o3 12 (.load 1 .false (.t 11)) 1009,o3 13 (.call 33 [.t 9, .t 12]) 1010, .mk (.some 4) (.mv (.t 13)) .none 1011 (.some
 [1010]) .true [] .false]) .ret)
def rs91:List IRes:=[.tmp 4]
set_option maxRecDepth 100000 in
theorem comp91:CompAt Try.prog 52 1000 ir91 rs91 14:=⟨⟨_,_,1012,Try.func52,rfl,by kernel_rfl,by kernel_rfl,rfl⟩⟩
theorem body91:HasBody Try.prog 52:=hasBody_of (by kernel_rfl)
def ir92:IC :=
 .reg 1000 11 [o1 6 (.mv (.t 0)) 1000,o1 7 (.mv (.t 0)) 1001,o1 8 (.nilc (.t 7)) 1002,o1 9 (.faddr 2 (.t 8)) 1003,o1 10 (.load 1 .false (.t 9)) 1004,o1 11 (.mv (.t 1)) 1005,o1 12 (.mv (.t 2)) 1006,o1 13 (.call 71 [.t 10, .t 11, .t 12]) 1007,o1 14 (.nilc (.t 6)) 1008,o1 15 (.faddr 2 (.t 14)) 1009,o2 (.store 1 (.t 15) (.t 13)) 1010]
def rs92:List IRes:=[]
set_option maxRecDepth 100000 in
theorem comp92:CompAt Try.prog 53 1000 ir92 rs92 16:=⟨⟨_,_,1011,Try.func53,rfl,by kernel_rfl,by kernel_rfl,rfl⟩⟩
theorem body92:HasBody Try.prog 53:=hasBody_of (by kernel_rfl)
def ir94:IC :=
 .seq (.reg 1000 2 [o1 2 (.box 71 (.t 0)) 1000,o1 3 (.mv (.k (.bool .false))) 1001]) (.seq (.reg 1002 7
 [o1 4 (.faddr 0 (.t 2)) 1002,o1 5 (.faddr 2 (.t 4)) 1003,o1 6 (.load 1 .false (.t 5)) 1004,o1 7 (.faddr 0 (.t 1)) 1005,o1 8 (.load 1 .false (.t 7)) 1006,o1 9 (.bin .eql (.t 6) (.t 8)) 1007,o1 3 (.mv (.t 9)) 1008]) .ret)
def rs94:List IRes:=[.tmp 3]
set_option maxRecDepth 100000 in
theorem comp94:CompAt Try.prog 55 1000 ir94 rs94 10:=⟨⟨_,_,1009,Try.func55,rfl,by kernel_rfl,by kernel_rfl,rfl⟩⟩
theorem body94:HasBody Try.prog 55:=hasBody_of (by kernel_rfl)
def ir95:IC :=
 .seq (.reg 1000 1 [o1 3 (.mv (.k (.bool .false))) 1000]) (.seq (.reg 1001 5 [o1 4 (.mv (.t 0)) 1001,o1 5 (.faddr 0 (.t 1)) 1002,o1 6 (.load 1 .false (.t 5)) 1003,o1 7 (.bin .eql (.t 4) (.t 6)) 1004,o1 3 (.mv (.t 7)) 1005]) .ret)
def rs95:List IRes:=[.tmp 3]
set_option maxRecDepth 100000 in
theorem comp95:CompAt Try.prog 56 1000 ir95 rs95 8:=⟨⟨_,_,1006,Try.func56,rfl,by kernel_rfl,by kernel_rfl,rfl⟩⟩
theorem body95:HasBody Try.prog 56:=hasBody_of (by kernel_rfl)
def ir98:IC :=
 .seq (.reg 1000 2 [o1 3 (.box 110 (.t 1)) 1000,o1 4 (.mv (.k (.bool .false))) 1001]) (.seq (.reg 1002 5
 [o1 5 (.mv (.t 0)) 1002,o1 6 (.mkf 77 [] [.t 3]) 1003,o1 7 (.call 76 [.t 5, .t 6]) 1004,o1 8 (.un .not (.t 7)) 1005,o1 4 (.mv (.t 8)) 1006]) .ret)
def rs98:List IRes:=[.tmp 4]
set_option maxRecDepth 100000 in
theorem comp98:CompAt Try.prog 64 1000 ir98 rs98 9:=⟨⟨_,_,1007,Try.func64,rfl,by kernel_rfl,by kernel_rfl,rfl⟩⟩
theorem body98:HasBody Try.prog 64:=hasBody_of (by kernel_rfl)
def ir100:IC :=
 .seq (.reg 1000 1 [o1 4 (.mv (.k (.bool .false))) 1000]) (.seq (.reg 1001 5 [o1 5 (.mv (.t 0)) 1001,o1 6 (.mv (.t 1)) 1002,o1 7 (.call 78 [.t 5, .t 6]) 1003,o1 8 (.bin .geq (.t 7) (.k (.int .i64 0))) 1004,o1 4 (.mv (.t 8)) 1005]) .ret)
def rs100:List IRes:=[.tmp 4]
set_option maxRecDepth 100000 in
theorem comp100:CompAt Try.prog 66 1000 ir100 rs100 9:=⟨⟨_,_,1006,Try.func66,rfl,by kernel_rfl,by kernel_rfl,rfl⟩⟩
theorem body100:HasBody Try.prog 66:=hasBody_of (by kernel_rfl)
def ir101:IC :=
 .seq (.reg 1000 2 [o1 2 (.box 51 (.t 0)) 1000,o1 3 (.mv (.k (.bool .false))) 1001]) (.seq (.reg 1002 5
 [o1 4 (.load 1 .false (.t 1)) 1002,o1 5 (.load 3 .true (.t 2)) 1003,o1 6 (.callv (.t 4) [.t 5]) 1004,o1 7 (.un .not (.t 6)) 1005,o1 3 (.mv (.t 7)) 1006]) .ret)
def rs101:List IRes:=[.tmp 3]
set_option maxRecDepth 100000 in
theorem comp101:CompAt Try.prog 67 1000 ir101 rs101 8:=⟨⟨_,_,1007,Try.func67,rfl,by kernel_rfl,by kernel_rfl,rfl⟩⟩
theorem body101:HasBody Try.prog 67:=hasBody_of (by kernel_rfl)
def ir102:IC :=
 .seq (.reg 1000 1 [o1 4 (.mv (.k (.bool .false))) 1000]) (.seq (.reg 1001 5 [o1 5 (.mv (.t 0)) 1001,o1 6 (.mv (.t 1)) 1002,o1 7 (.call 32 [.t 5, .t 6]) 1003,o1 8 (.bin .geq (.t 7) (.k (.int .i64 0))) 1004,o1 4 (.mv (.t 8)) 1005]) .ret)
def rs102:List IRes:=[.tmp 4]
set_option maxRecDepth 100000 in
theorem comp102:CompAt Try.prog 68 1000 ir102 rs102 9:=⟨⟨_,_,1006,Try.func68,rfl,by kernel_rfl,by kernel_rfl,rfl⟩⟩
theorem body102:HasBody Try.prog 68:=hasBody_of (by kernel_rfl)
def ir103:IC :=
 .seq (.reg 1000 1 [o1 3 (.mv (.k (.bool .false))) 1000]) (.seq (.reg 1001 5 [o1 4 (.load 1 .false (.t 1)) 1001,o1 5 (.mv (.t 0)) 1002,o1 6 (.callv (.t 4) [.t 5]) 1003,o1 7 (.un .not (.t 6)) 1004,o1 3 (.mv (.t 7)) 1005]) .ret)
def rs103:List IRes:=[.tmp 3]
set_option maxRecDepth 100000 in
theorem comp103:CompAt Try.prog 69 1000 ir103 rs103 8:=⟨⟨_,_,1006,Try.func69,rfl,by kernel_rfl,by kernel_rfl,rfl⟩⟩
theorem body103:HasBody Try.prog 69:=hasBody_of (by kernel_rfl)
def ir105:IC :=
 .seq (.reg 1000 1 [o1 4 (.mv (.k (.bool .false))) 1000]) (.seq (.reg 1001 5 [o1 5 (.mv (.t 0)) 1001,o1 6 (.mv (.t 1)) 1002,o1 7 (.call 72 [.t 5, .t 6]) 1003,o1 8 (.bin .geq (.t 7) (.k (.int .i64 0))) 1004,o1 4 (.mv (.t 8)) 1005]) .ret)
def rs105:List IRes:=[.tmp 4]
set_option maxRecDepth 100000 in
theorem comp105:CompAt Try.prog 58 1000 ir105 rs105 9:=⟨⟨_,_,1006,Try.func58,rfl,by kernel_rfl,by kernel_rfl,rfl⟩⟩
theorem body105:HasBody Try.prog 58:=hasBody_of (by kernel_rfl)
def ir106:IC :=
 .seq (.reg 1000 2 [o1 2 (.box 71 (.t 0)) 1000,o1 3 (.mv (.k (.bool .false))) 1001]) (.seq (.reg 1002 5
 [o1 4 (.load 1 .false (.t 1)) 1002,o1 5 (.load 4 .true (.t 2)) 1003,o1 6 (.callv (.t 4) [.t 5]) 1004,o1 7 (.un .not (.t 6)) 1005,o1 3 (.mv (.t 7)) 1006]) .ret)
def rs106:List IRes:=[.tmp 3]
set_option maxRecDepth 100000 in
theorem comp106:CompAt Try.prog 59 1000 ir106 rs106 8:=⟨⟨_,_,1007,Try.func59,rfl,by kernel_rfl,by kernel_rfl,rfl⟩⟩
theorem body106:HasBody Try.prog 59:=hasBody_of (by kernel_rfl)
def ir107:IC :=
 .seq (.reg 1000 1 [o1 4 (.mv (.k (.bool .false))) 1000]) (.seq (.reg 1001 5 [o1 5 (.mv (.t 0)) 1001,o1 6 (.mv (.t 1)) 1002,o1 7 (.call 75 [.t 5, .t 6]) 1003,o1 8 (.bin .geq (.t 7) (.k (.int .i64 0))) 1004,o1 4 (.mv (.t 8)) 1005]) .ret)
def rs107:List IRes:=[.tmp 4]
set_option maxRecDepth 100000 in
theorem comp107:CompAt Try.prog 62 1000 ir107 rs107 9:=⟨⟨_,_,1006,Try.func62,rfl,by kernel_rfl,by kernel_rfl,rfl⟩⟩
theorem body107:HasBody Try.prog 62:=hasBody_of (by kernel_rfl)
def ir108:IC :=
 .seq (.reg 1000 1 [o1 3 (.mv (.k (.bool .false))) 1000]) (.seq (.reg 1001 5 [o1 4 (.load 1 .false (.t 1)) 1001,o1 5 (.mv (.t 0)) 1002,o1 6 (.callv (.t 4) [.t 5]) 1003,o1 7 (.un .not (.t 6)) 1004,o1 3 (.mv (.t 7)) 1005]) .ret)
def rs108:List IRes:=[.tmp 3]
set_option maxRecDepth 100000 in
theorem comp108:CompAt Try.prog 63 1000 ir108 rs108 8:=⟨⟨_,_,1006,Try.func63,rfl,by kernel_rfl,by kernel_rfl,rfl⟩⟩
theorem body108:HasBody Try.prog 63:=hasBody_of (by kernel_rfl)
def ir109:IC :=
 .seq (.reg 1000 1 [o1 4 (.mv (.k (.int .i64 0))) 1000]) (.seq (.seq (.reg 1001 3 [o1 6 (.mv (.t 0)) 1001,
 o1 7 (.len (.t 6)) 1002,o1 8 (.mv (.k (.int .i64 0))) 1003]) (.block 0 (.loop (.seq (.reg 1004 1 [o1 9 (.bin .lss (.t 8) (.t 7)) 1004]) (.seq (.cond (.t 9) .skip (.exit 0)) (.seq (.block 1 (.seq (.reg 1005 2 [o1 10 (.mv (.t 8)) 1005,o1 5 (.mv (.t 10)) 1006]) (.seq (.reg 1007 6 [o1 11 (.mv (.t 1)) 1007,o1 12 (.mv (.t 0)) 1008,o1 13 (.mv (.t 5)) 1009,o1 14 (.iaddr 2 (.t 12) (.t 13)) 1010,o1 15 (.load 2 .true (.t 14)) 1011,o1 16 (.callv (.t 11) [.t 15]) 1012])
 (.cond (.t 16) (.seq (.reg 1013 2 [o1 17 (.mv (.t 5)) 1013,o1 4 (.mv (.t 17)) 1014]) .ret) .skip))))
 (.reg 1015 2 [o1 18 (.bin .add (.t 8) (.k (.int .i64 1))) 1015,o1 8 (.mv (.t 18)) 1016]))))))) (.seq
 (.reg 1017 1 [o1 4 (.mv (.k (.int .i64 (-1)))) 1017]) .ret))
def rs109:List IRes:=[.tmp 4]
set_option maxRecDepth 100000 in
theorem comp109:CompAt Try.prog 70 1000 ir109 rs109 19:=⟨⟨_,_,1018,Try.func70,rfl,by kernel_rfl,by kernel_rfl,rfl⟩⟩
theorem body109:HasBody Try.prog 70:=hasBody_of (by kernel_rfl)
def ir111:IC :=
 .seq (.reg 1000 1 [o1 4 (.mv (.k (.int .i64 0))) 1000]) (.seq (.seq (.reg 1001 3 [o1 6 (.mv (.t 0)) 1001,
 o1 7 (.len (.t 6)) 1002,o1 8 (.mv (.k (.int .i64 0))) 1003]) (.block 0 (.loop (.seq (.reg 1004 1 [o1 9 (.bin .lss (.t 8) (.t 7)) 1004]) (.seq (.cond (.t 9) .skip (.exit 0)) (.seq (.block 1 (.seq (.reg 1005 2 [o1 10 (.mv (.t 8)) 1005,o1 5 (.mv (.t 10)) 1006]) (.seq (.reg 1007 6 [o1 11 (.mv (.t 1)) 1007,o1 12 (.mv (.t 0)) 1008,o1 13 (.mv (.t 5)) 1009,o1 14 (.iaddr 4 (.t 12) (.t 13)) 1010,o1 15 (.load 4 .true (.t 14)) 1011,o1 16 (.callv (.t 11) [.t 15]) 1012])
 (.cond (.t 16) (.seq (.reg 1013 2 [o1 17 (.mv (.t 5)) 1013,o1 4 (.mv (.t 17)) 1014]) .ret) .skip))))
 (.reg 1015 2 [o1 18 (.bin .add (.t 8) (.k (.int .i64 1))) 1015,o1 8 (.mv (.t 18)) 1016]))))))) (.seq
 (.reg 1017 1 [o1 4 (.mv (.k (.int .i64 (-1)))) 1017]) .ret))
def rs111:List IRes:=[.tmp 4]
set_option maxRecDepth 100000 in
theorem comp111:CompAt Try.prog 72 1000 ir111 rs111 19:=⟨⟨_,_,1018,Try.func72,rfl,by kernel_rfl,by kernel_rfl,rfl⟩⟩
theorem body111:HasBody Try.prog 72:=hasBody_of (by kernel_rfl)
def ir114:IC :=
 .seq (.reg 1000 1 [o1 4 (.mv (.k (.bool .false))) 1000]) (.seq (.reg 1001 5 [o1 5 (.mv (.t 0)) 1001,o1 6 (.mv (.t 1)) 1002,o1 7 (.call 92 [.t 5, .t 6]) 1003,o1 8 (.bin .geq (.t 7) (.k (.int .i64 0))) 1004,o1 4 (.mv (.t 8)) 1005]) .ret)
def rs114:List IRes:=[.tmp 4]
set_option maxRecDepth 100000 in
theorem comp114:CompAt Try.prog 76 1000 ir114 rs114 9:=⟨⟨_,_,1006,Try.func76,rfl,by kernel_rfl,by kernel_rfl,rfl⟩⟩
theorem body114:HasBody Try.prog 76:=hasBody_of (by kernel_rfl)
def ir115:IC :=
 .seq (.reg 1000 1 [o1 3 (.mv (.k (.bool .false))) 1000]) (.seq (.reg 1001 5 [o1 4 (.load 1 .false (.t 1)) 1001,o1 5 (.mv (.t 0)) 1002,o1 6 (.callv (.t 4) [.t 5]) 1003,o1 7 (.un .not (.t 6)) 1004,o1 3 (.mv (.t 7)) 1005]) .ret)
def rs115:List IRes:=[.tmp 3]
set_option maxRecDepth 100000 in
theorem comp115:CompAt Try.prog 77 1000 ir115 rs115 8:=⟨⟨_,_,1006,Try.func77,rfl,by kernel_rfl,by kernel_rfl,rfl⟩⟩
theorem body115:HasBody Try.prog 77:=hasBody_of (by kernel_rfl)
def ir116:IC :=
 .seq (.reg 1000 1 [o1 4 (.mv (.k (.int .i64 0))) 1000]) (.seq (.seq (.reg 1001 3 [o1 6 (.mv (.t 0)) 1001,
 o1 7 (.len (.t 6)) 1002,o1 8 (.mv (.k (.int .i64 0))) 1003]) (.block 0 (.loop (.seq (.reg 1004 1 [o1 9 (.bin .lss (.t 8) (.t 7)) 1004]) (.seq (.cond (.t 9) .skip (.exit 0)) (.seq (.block 1 (.seq (.reg 1005 2 [o1 10 (.mv (.t 8)) 1005,o1 5 (.mv (.t 10)) 1006]) (.seq (.reg 1007 6 [o1 11 (.mv (.t 1)) 1007,o1 12 (.mv (.t 0)) 1008,o1 13 (.mv (.t 5)) 1009,o1 14 (.iaddr 3 (.t 12) (.t 13)) 1010,o1 15 (.load 3 .true (.t 14)) 1011,o1 16 (.callv (.t 11) [.t 15]) 1012])
 (.cond (.t 16) (.seq (.reg 1013 2 [o1 17 (.mv (.t 5)) 1013,o1 4 (.mv (.t 17)) 1014]) .ret) .skip))))
 (.reg 1015 2 [o1 18 (.bin .add (.t 8) (.k (.int .i64 1))) 1015,o1 8 (.mv (.t 18)) 1016]))))))) (.seq
 (.reg 1017 1 [o1 4 (.mv (.k (.int .i64 (-1)))) 1017]) .ret))
def rs116:List IRes:=[.tmp 4]
set_option maxRecDepth 100000 in
theorem comp116:CompAt Try.prog 78 1000 ir116 rs116 19:=⟨⟨_,_,1018,Try.func78,rfl,by kernel_rfl,by kernel_rfl,rfl⟩⟩
theorem body116:HasBody Try.prog 78:=hasBody_of (by kernel_rfl)
def ir117:IC :=
 .seq (.reg 1000 1 [o1 4 (.mv (.k (.int .i64 0))) 1000]) (.seq (.seq (.reg 1001 3 [o1 6 (.mv (.t 0)) 1001,
 o1 7 (.len (.t 6)) 1002,o1 8 (.mv (.k (.int .i64 0))) 1003]) (.block 0 (.loop (.seq (.reg 1004 1 [o1 9 (.bin .lss (.t 8) (.t 7)) 1004]) (.seq (.cond (.t 9) .skip (.exit 0)) (.seq (.block 1 (.seq (.reg 1005 2 [o1 10 (.mv (.t 8)) 1005,o1 5 (.mv (.t 10)) 1006]) (.seq (.reg 1007 6 [o1 11 (.mv (.t 1)) 1007,o1 12 (.mv (.t 0)) 1008,o1 13 (.mv (.t 5)) 1009,o1 14 (.iaddr 1 (.t 12) (.t 13)) 1010,o1 15 (.load 1 .false (.t 14)) 1011,o1 16 (.callv (.t 11) [.t 15]) 1012])
 (.cond (.t 16) (.seq (.reg 1013 2 [o1 17 (.mv (.t 5)) 1013,o1 4 (.mv (.t 17)) 1014]) .ret) .skip))))
 (.reg 1015 2 [o1 18 (.bin .add (.t 8) (.k (.int .i64 1))) 1015,o1 8 (.mv (.t 18)) 1016]))))))) (.seq
 (.reg 1017 1 [o1 4 (.mv (.k (.int .i64 (-1)))) 1017]) .ret))
def rs117:List IRes:=[.tmp 4]
set_option maxRecDepth 100000 in
theorem comp117:CompAt Try.prog 75 1000 ir117 rs117 19:=⟨⟨_,_,1018,Try.func75,rfl,by kernel_rfl,by kernel_rfl,rfl⟩⟩
theorem body117:HasBody Try.prog 75:=hasBody_of (by kernel_rfl)
def ir131:IC :=
 .seq (.reg 1000 1 [o1 4 (.mv (.k (.int .i64 0))) 1000]) (.seq (.seq (.reg 1001 3 [o1 6 (.mv (.t 0)) 1001,
 o1 7 (.len (.t 6)) 1002,o1 8 (.mv (.k (.int .i64 0))) 1003]) (.block 0 (.loop (.seq (.reg 1004 1 [o1 9 (.bin .lss (.t 8) (.t 7)) 1004]) (.seq (.cond (.t 9) .skip (.exit 0)) (.seq (.block 1 (.seq (.reg 1005 2 [o1 10 (.mv (.t 8)) 1005,o1 5 (.mv (.t 10)) 1006]) (.seq (.reg 1007 6 [o1 11 (.mv (.t 1)) 1007,o1 12 (.mv (.t 0)) 1008,o1 13 (.mv (.t 5)) 1009,o1 14 (.iaddr 1 (.t 12) (.t 13)) 1010,o1 15 (.load 1 .false (.t 14)) 1011,o1 16 (.callv (.t 11) [.t 15]) 1012])
 (.cond (.t 16) (.seq (.reg 1013 2 [o1 17 (.mv (.t 5)) 1013,o1 4 (.mv (.t 17)) 1014]) .ret) .skip))))
 (.reg 1015 2 [o1 18 (.bin .add (.t 8) (.k (.int .i64 1))) 1015,o1 8 (.mv (.t 18)) 1016]))))))) (.seq
 (.reg 1017 1 [o1 4 (.mv (.k (.int .i64 (-1)))) 1017]) .ret))
def rs131:List IRes:=[.tmp 4]
set_option maxRecDepth 100000 in
theorem comp131:CompAt Try.prog 92 1000 ir131 rs131 19:=⟨⟨_,_,1018,Try.func92,rfl,by kernel_rfl,by kernel_rfl,rfl⟩⟩
theorem body131:HasBody Try.prog 92:=hasBody_of (by kernel_rfl)

end Go.Proofs.Ytfppbjfbghaclaa

namespace Go.Proofs.Ytfppbjfbghaclaa
open Go.Pal
theorem body16:HasBody Try.prog 6:=hasBody_of (by kernel_rfl)
def ir26:IC :=
 .seq (.reg 0 5 [o1 2 (.box 25 (.t 0)) 0,o1 4 (.alloc 41 [.slice .none 0 0]) 1,o1 5 (.mv (.k (.slice .none 0 0))) 2,o1 6 (.mv (.k (.int .i64 0))) 3,o1 7 (.mv (.k (.int .i64 0))) 4]) (.seq (.reg 5 11 [o1 12 (.load 2 .true (.t 2)) 5,o1 13 (.mv (.t 1)) 6,o1 14 (.call 13 [.t 12, .t 13]) 7,o1 11 (.mv (.t 14)) 8,o1 15 (.ext (.t 11) 0) 9,o1 16 (.ext (.t 11) 1) 10,o1 17 (.ext (.t 11) 2) 11,o1 8 (.alloc 54 [.pointer .none]) 12,o2 (.store 1 (.t 8) (.t 15)) 13,o1 6 (.mv (.t 16)) 14,o1 7 (.mv (.t 17)) 15]) (.seq (.seq (.reg 16 2 [o1 18 (.mv (.t 7)) 16,o1 19 (.bin .neq (.t 18) (.k (.int .i64 0))) 17]) (.cond (.t 19) (.seq (.reg 18 6 [o1 20 (.mv (.t 6)) 18,o1 21 (.mv (.t 7)) 19,o2 (.store 1 (.t 4) (.k (.slice .none 0 0))) 20,o1 5 (.mv (.k (.slice .none 0 0))) 21,o1 6 (.mv (.t 20)) 22,o1 7 (.mv (.t 21)) 23]) .ret) .skip)) (.seq (.seq (.reg 24 2
 [o1 22 (.load 1 .false (.t 8)) 24,o1 23 (.call 18 [.t 22]) 25]) (.block 0 (.range (.t 23) [24,25]
 (.reg 26 1 [o1 10 (.mv (.t 25)) 26]) (.block 1 (.draw 27 12 [] [] [o3 26 (.load 1 .false (.t 4)) 27,o3 27 (.load 1 .false (.t 8)) 28,o3 28 (.nilc (.t 27)) 29,o3 29 (.faddr 2 (.t 28)) 30,o3 30 (.load 1 .false (.t 29)) 31,o3 31 (.mv (.t 10)) 32,o3 32 (.iaddr 4 (.t 30) (.t 31)) 33,o3 33 (.faddr 0 (.t 32)) 34,o3 34 (.load 3 .true (.t 33)) 35, .mk (.some 35) (.bsl 69 3 1 [.string (ByteArray.mk (Array.mk [])), .int .i64 0, .int .i64 0] [(0, .t 34)]) .none 36
 (.some []) .true [] .false, .mk (.some 36) (.app 69 3 32 (.t 26) (.t 35)) .none 37 (.some [36]) .true [] .false, .mk .none (.store 1 (.t 4) (.t 36)) .none 38 (.some [36,37])
 .true [] .false]))))) (.seq (.drawd 39 9 [] [] [] [.some [4], .some [8], .none, .none, .none, .some [4], .none, .none, .none] [(0,o3 37 (.load 1 .false (.t 4)) 39),(1,o3 38 (.load 1 .false (.t 8)) 40),(2, .mk (.some 39) (.nilc (.t 38)) .none 41 (.some []) .true [1]
 .false),(3, .mk (.some 40) (.faddr 3 (.t 39)) .none 42 (.some []) .true [1,2] .false),(4, .mk (.some 41) (.load 1 .false (.t 40)) .none 43 (.some []) .true [2,1,3] .false),
 (5, .mk .none (.store 1 (.t 4) (.t 37)) .none 44 (.some []) .true [0] .false),(6, .mk (.some 5) (.mv (.t 41)) .none 45 (.some []) .true [0,5,3,1,2,4] .false),(7, .mk (.some
 6) (.mv (.k (.int .i64 0))) .none 46 (.some []) .true [4,2,1,3,5,0,6] .false),(8, .mk (.some 7) (.mv (.k (.int .i64 0))) .none 47 (.some []) .true [6,0,5,3,1,2,4,7]
 .false)]) .ret))))
def rs26:List IRes:=[.cell 4 1 .false, .tmp 5, .tmp 6, .tmp 7]
set_option maxRecDepth 100000 in
theorem comp26:Comp Try.prog 8 ir26 rs26 42:=⟨⟨_,_,48,Try.func8,rfl,by kernel_rfl,by kernel_rfl,rfl⟩⟩
theorem body26:HasBody Try.prog 8:=hasBody_of (by kernel_rfl)
theorem body43:HasBody Try.prog 17:=hasBody_of (by kernel_rfl)
def ir44:IC :=
 .seq (.reg 0 2 [o1 1 (.box 54 (.t 0)) 0,o1 2 (.mv (.k .nilFunc)) 1]) (.seq (.reg 2 2 [o1 3 (.mkf 38 [] [.t 1]) 2,o1 2 (.mv (.t 3)) 3]) .ret)
def rs44:List IRes:=[.tmp 2]
set_option maxRecDepth 100000 in
theorem comp44:Comp Try.prog 18 ir44 rs44 4:=⟨⟨_,_,4,Try.func18,rfl,by kernel_rfl,by kernel_rfl,rfl⟩⟩
theorem body44:HasBody Try.prog 18:=hasBody_of (by kernel_rfl)
def ir45:IC :=
 .seq (.reg 0 2 [o1 2 (.box 25 (.t 0)) 0,o1 4 (.alloc 48 [.slice .none 0 0, .int .i64 0, .int .i64 0, .slice .none 0 0]) 1]) (.seq (.reg 2 5 [o1 9 (.mv (.t 1)) 2,o1 10 (.call 39 [.t 9]) 3,o1 11 (.bld [(0,1),(1,1),(2,1),(3,1)] [.slice .none 0 0, .int .i64 0, .int .i64 0, .slice .none 0 0] [(0, .t 10),(1, .k (.int .i64 (-1))),(2, .k (.int .i64 (-1))),(3, .k (.slice .none 0 0))]) 4,o1 5 (.alloc 48 [.slice .none 0 0, .int .i64 0, .int .i64 0, .slice .none 0 0]) 5,o2 (.store 4 (.t 5) (.t 11)) 6]) (.seq (.seq (.reg 7 3 [o1 12 (.mv (.t 1)) 7,o1 13 (.len (.t 12)) 8,o1 14 (.mv (.k (.int .i64 0))) 9]) (.block 0 (.loop (.seq (.reg 10 1 [o1 15 (.bin .lss (.t 14) (.t 13)) 10]) (.seq (.cond (.t 15) .skip (.exit 0)) (.seq (.block 1 (.seq (.reg 11 5 [o1 16 (.mv (.t 14)) 11,o1 17 (.iaddr 1 (.t 12) (.t 14)) 12,o1 18 (.load 1 .false (.t 17)) 13,o1 6 (.mv (.t 16)) 14,o1 7 (.mv (.t 18)) 15]) (.seq (.reg 16 7 [o1 19 (.faddr 0 (.t 2)) 16,o1 20 (.load 1 .false (.t 19)) 17,o1 21 (.mv (.t 7)) 18,o1 22 (.iaddr 3 (.t 20) (.t 21)) 19,o1 23 (.load 3 .true (.t 22)) 20, .mk (.some 8) (.alloc 51 [.string (ByteArray.mk (Array.mk [])), .int .i64 0,
 .int .i64 0]) .none 21 .none .false [] .false,o2 (.store 3 (.t 8) (.t 23)) 22]) (.seq (.seq (.reg 23 2 [o1 24 (.mv (.t 6)) 23,o1 25 (.bin .eql (.t 24) (.k (.int .i64 0))) 24]) (.cond (.t 25) (.reg 25 4 [o1 26 (.faddr 1 (.t 8)) 25,o1 27 (.load 1 .false (.t 26)) 26,o1 28 (.faddr 1 (.t 5)) 27,o2 (.store 1 (.t 28) (.t 27)) 28]) .skip)) (.seq (.reg 29 4 [o1 29 (.faddr 1 (.t 8)) 29,o1 30 (.load 1 .false (.t 29)) 30,o1 31 (.faddr 2 (.t 5)) 31,o2 (.store 1 (.t 31) (.t 30)) 32]) (.reg 33 8 [o1 32 (.faddr 3 (.t 5)) 33,o1 33 (.load 1 .false (.t 32)) 34,o1 34 (.faddr 2 (.t 8)) 35,o1 35 (.load 1 .false (.t 34)) 36,o1 36 (.bsl 3 1 1 [.int .i64 0] [(0, .t 35)]) 37,o1 37 (.app 3 1 8 (.t 33) (.t 36)) 38,o1 38 (.faddr 3 (.t 5)) 39,o2 (.store 1 (.t 38) (.t 37)) 40])))))) (.reg 41 2 [o1 39 (.bin .add (.t 14) (.k (.int .i64 1))) 41,o1 14 (.mv (.t 39)) 42]))))))) (.seq (.reg 43 5 [o1 40 (.faddr 3 (.t 5)) 43,o1 41 (.load 1 .false (.t 40)) 44,o1 42 (.cut 37 (.t 41) []) 45,o1 43 (.faddr 3 (.t 5)) 46,
 o2 (.store 1 (.t 43) (.t 42)) 47]) (.seq (.reg 48 2 [o1 44 (.load 4 .true (.t 5)) 48,o2 (.store 4 (.t 4) (.t 44)) 49]) .ret))))
def rs45:List IRes:=[.cell 4 4 .true]
set_option maxRecDepth 100000 in
theorem comp45:Comp Try.prog 19 ir45 rs45 45:=⟨⟨_,_,50,Try.func19,rfl,by kernel_rfl,by kernel_rfl,rfl⟩⟩
theorem body45:HasBody Try.prog 19:=hasBody_of (by kernel_rfl)
def ir62:IC :=
 .seq (.reg 1000 2 [o1 5 (.box 78 (.t 2)) 1000,o1 6 (.alloc 78 [.int .i64 0, .int .i64 0]) 1001]) (.seq
 (.reg 1002 3 [o1 9 (.mv (.t 0)) 1002,o1 10 (.call 49 [.t 9]) 1003,o1 7 (.mv (.t 10)) 1004]) (.seq (.block 0 (.loop (.seq (.seq (.reg 1005 5 [o1 11 (.faddr 0 (.t 5)) 1005,o1 12 (.load 1 .false (.t 11)) 1006,o1 13 (.mv (.t 1)) 1007,o1 14 (.len (.t 13)) 1008,o1 15 (.bin .lss (.t 12) (.t 14)) 1009]) (.cond (.t 15) .skip (.exit 0))) (.seq (.block 1 (.seq (.reg 1010 3 [o1 20 (.faddr 1 (.t 5)) 1010,o1 21 (.load 1 .false (.t 20)) 1011,o1 8 (.mv (.t 21)) 1012])
 (.block 2 (.loop (.seq (.seq (.reg 1013 4 [o1 22 (.mv (.t 8)) 1013,o1 23 (.mv (.t 7)) 1014,o1 24 (.len (.t 23)) 1015,o1 25 (.bin .lss (.t 22) (.t 24)) 1016]) (.cond (.t 25) .skip (.exit 2))) (.seq (.block
 3 (.seq (.reg 1017 9 [o1 28 (.mv (.t 0)) 1017,o1 29 (.mv (.t 1)) 1018,o1 30 (.faddr 0 (.t 5)) 1019,o1 31 (.load 1 .false (.t 30)) 1020,o1 32 (.iaddr 2 (.t 29) (.t 31)) 1021,o1 33 (.load 2 .true (.t 32)) 1022,o1 34 (.mv (.t 7)) 1023,o1 35 (.mv (.t 8)) 1024,o1 36 (.call 50 [.t 28, .t 33, .t 34, .t 35]) 1025]) (.cond (.t 36) (.seq (.reg 1026 5 [o1 37 (.faddr 0 (.t 5)) 1026,o1 38 (.load 1 .false (.t 37)) 1027,o1 39 (.mv (.t 8)) 1028,o1 40 (.bld [(0,1),(1,1)] [.int .i64 0, .int .i64 0] [(0, .t 38),(1, .t 39)]) 1029,o2 (.store 2 (.t 6) (.t 40)) 1030]) .ret) .skip))) (.reg 1031 3 [o1 26 (.mv (.t 8)) 1031,o1 27 (.bin .add (.t 26) (.k (.int .i64 1))) 1032,o1 8 (.mv (.t 27)) 1033]))))))) (.reg 1034 5 [o1 16 (.faddr 0 (.t 5)) 1034,o1 17 (.load 1 .false (.t 16)) 1035,o1 18 (.bin .add (.t 17) (.k (.int .i64 1))) 1036,o1 19 (.bld [(0,1),(1,1)] [.int .i64 0, .int .i64 0] [(0, .t 18),(1, .k (.int .i64 0))]) 1037,o2 (.store 2 (.t 5) (.t 19)) 1038]))))) (.seq (.reg 1039 2 [o1 41 (.call 26 []) 1039,o2 (.store 2 (.t 6) (.t 41)) 1040]) .ret)))
def rs62:List IRes:=[.cell 6 2 .true]
set_option maxRecDepth 100000 in
theorem comp62:CompAt Try.prog 25 1000 ir62 rs62 42:=⟨⟨_,_,1041,Try.func25,rfl,by kernel_rfl,by kernel_rfl,rfl⟩⟩
theorem body62:HasBody Try.prog 25:=hasBody_of (by kernel_rfl)
def ir63:IC :=
 .seq (.reg 0 1 [o1 0 (.alloc 78 [.int .i64 0, .int .i64 0]) 0]) (.seq (.reg 1 2 [o1 1 (.bld [(0,1),(1,1)] [.int .i64 0, .int .i64 0] [(0, .k (.int .i64 (-1))),(1, .k (.int .i64 (-1)))]) 1,o2 (.store 2 (.t 0) (.t 1)) 2]) .ret)
def rs63:List IRes:=[.cell 0 2 .true]
set_option maxRecDepth 100000 in
theorem comp63:Comp Try.prog 26 ir63 rs63 2:=⟨⟨_,_,3,Try.func26,rfl,by kernel_rfl,by kernel_rfl,rfl⟩⟩
theorem body63:HasBody Try.prog 26:=hasBody_of (by kernel_rfl)
def ir64:IC :=
 .seq (.reg 0 1 [o1 2 (.mv (.k (.slice .none 0 0))) 0]) (.seq (.seq (.reg 1 2 [o1 3 (.mv (.t 0)) 1,o1 4 (.pur (.bin .eql 37) [.t 3, .k (.slice .none 0 0)]) 2]) (.cond (.t 4) (.seq (.reg 3 1 [o1 2 (.mv (.k (.slice .none 0 0))) 3]) .ret) .skip)) (.seq (.reg 4 4 [o1 5 (.bsl 9 1 0 [] []) 4,o1 6 (.mv (.t 0)) 5,
 o1 7 (.app 9 1 16 (.t 5) (.t 6)) 6,o1 2 (.mv (.t 7)) 7]) .ret))
def rs64:List IRes:=[.tmp 2]
set_option maxRecDepth 100000 in
theorem comp64:Comp Try.prog 27 ir64 rs64 8:=⟨⟨_,_,8,Try.func27,rfl,by kernel_rfl,by kernel_rfl,rfl⟩⟩
theorem body64:HasBody Try.prog 27:=hasBody_of (by kernel_rfl)
theorem body70:HasBody Try.prog 36:=hasBody_of (by kernel_rfl)
theorem body71:HasBody Try.prog 37:=hasBody_of (by kernel_rfl)
def ir72:IC :=
 .seq (.reg 0 1 [o1 3 (.mv (.k (.int .i64 0))) 0]) (.seq (.reg 1 6 [o1 6 (.load 1 .false (.t 1)) 1,o1 7 (.nilc (.t 6)) 2,o1 8 (.faddr 2 (.t 7)) 3,o1 9 (.load 1 .false (.t 8)) 4,o1 10 (.len (.t 9)) 5,o1 11 (.mv (.k (.int .i64 0))) 6]) (.block 0 (.loop (.seq (.reg 7 1
 [o1 12 (.bin .lss (.t 11) (.t 10)) 7]) (.seq (.cond (.t 12) .skip (.exit 0)) (.seq (.block 1 (.seq (.reg 8 6 [o1 13 (.mv (.t 11)) 8,o1 14 (.iaddr 4 (.t 9) (.t 11)) 9,o1 15 (.load 4 .true (.t 14)) 10,
 .mk (.some 5) (.alloc 71 [.string (ByteArray.mk (Array.mk [])), .int .i64 0, .int .i64 0, .int .i64 0]) .none 11 .none .false [] .false,o1 4 (.mv (.t 13)) 12,o2 (.store 4 (.t 5) (.t 15)) 13]) (.seq (.seq (.reg 14 3 [o1 16 (.faddr 3 (.t 5)) 14,o1 17 (.load 1 .false (.t 16)) 15,o1 18 (.bin .neq (.t 17) (.k (.int .i64 0))) 16]) (.cond (.t
 18) (.exit 1) .skip)) (.seq (.seq (.reg 17 5 [o1 19 (.mv (.t 0)) 17,o1 20 (.mv (.t 3)) 18,o1 21 (.mv (.t 4)) 19,o1 22 (.callv (.t 19) [.t 20, .t 21]) 20,o1 23 (.un .not (.t 22)) 21]) (.cond (.t 23) .ret .skip)) (.reg 22 3 [o1 24 (.mv (.t 3)) 22,o1 25 (.bin .add (.t 24) (.k (.int .i64 1))) 23,o1 3 (.mv (.t 25)) 24]))))) (.reg 25 2 [o1 26 (.bin .add (.t 11) (.k (.int .i64 1))) 25,o1 11 (.mv (.t 26)) 26])))))))
def rs72:List IRes:=[]
set_option maxRecDepth 100000 in
theorem comp72:Comp Try.prog 38 ir72 rs72 27:=⟨⟨_,_,27,Try.func38,rfl,by kernel_rfl,by kernel_rfl,rfl⟩⟩
theorem body72:HasBody Try.prog 38:=hasBody_of (by kernel_rfl)
def ir73:IC :=
 .seq (.reg 0 1 [o1 2 (.mv (.k (.slice .none 0 0))) 0]) (.seq (.seq (.reg 1 2 [o1 3 (.mv (.t 0)) 1,o1 4 (.pur (.bin .eql 23) [.t 3, .k (.slice .none 0 0)]) 2]) (.cond (.t 4) (.seq (.reg 3 1 [o1 2 (.mv (.k (.slice .none 0 0))) 3]) .ret) .skip)) (.seq (.reg 4 4 [o1 5 (.bsl 3 1 0 [] []) 4,o1 6 (.mv (.t 0)) 5,
 o1 7 (.app 3 1 8 (.t 5) (.t 6)) 6,o1 2 (.mv (.t 7)) 7]) .ret))
def rs73:List IRes:=[.tmp 2]
set_option maxRecDepth 100000 in
theorem comp73:Comp Try.prog 39 ir73 rs73 8:=⟨⟨_,_,8,Try.func39,rfl,by kernel_rfl,by kernel_rfl,rfl⟩⟩
theorem body73:HasBody Try.prog 39:=hasBody_of (by kernel_rfl)
def ir77:IC :=
 .seq (.reg 0 1 [o1 6 (.mv (.k (.bool .false))) 0]) (.seq (.reg 1 9 [o1 7 (.mv (.t 1)) 1,o1 8 (.mv (.t 0)) 2,o1 9 (.bin .leq (.t 7) (.t 8)) 3,o1 10 (.mv (.t 9)) 4,
 .mk (.some 11) (.mv (.t 0)) (.some (10, .true)) 5 .none .false [] .false, .mk (.some 12) (.mv (.t 2)) (.some (10, .true)) 6 .none .false [] .false, .mk (.some 13) (.bin .leq (.t
 11) (.t 12)) (.some (10, .true)) 7 .none .false [] .false,o1 14 (.pick (.t 10) (.t 13) (.k (.bool .false))) 8,o1 6 (.mv (.t 14)) 9]) .ret)
def rs77:List IRes:=[.tmp 6]
set_option maxRecDepth 100000 in
theorem comp77:Comp Try.prog 40 ir77 rs77 15:=⟨⟨_,_,10,Try.func40,rfl,by kernel_rfl,by kernel_rfl,rfl⟩⟩
theorem body77:HasBody Try.prog 40:=hasBody_of (by kernel_rfl)
def ir82:IC :=
 .seq (.reg 0 1 [o1 4 (.mv (.k (.bool .false))) 0]) (.seq (.reg 1 5 [o1 5 (.mv (.t 0)) 1,o1 6 (.mv (.t 1)) 2,o1 7 (.call 57 [.t 5, .t 6]) 3,o1 8 (.bin .geq (.t 7) (.k (.int .i64 0))) 4,o1 4 (.mv (.t 8)) 5]) .ret)
def rs82:List IRes:=[.tmp 4]
set_option maxRecDepth 100000 in
theorem comp82:Comp Try.prog 33 ir82 rs82 9:=⟨⟨_,_,6,Try.func33,rfl,by kernel_rfl,by kernel_rfl,rfl⟩⟩
theorem body82:HasBody Try.prog 33:=hasBody_of (by kernel_rfl)
def ir88:IC :=
 .seq (.reg 0 1 [o1 2 (.alloc 23 [.slice .none 0 0]) 0]) (.seq (.seq (.reg 1 2 [o1 5 (.mv (.t 0)) 1,o1 6 (.call 18 [.t 5]) 2]) (.block 0 (.range (.t 6) [7,8] (.reg 3 1 [o1 4 (.mv (.t 8)) 3]) (.block 1 (.reg
 4 5 [o1 9 (.load 1 .false (.t 2)) 4,o1 10 (.mv (.t 4)) 5,o1 11 (.bsl 3 1 1 [.int .i64 0] [(0, .t 10)]) 6,o1 12 (.app 3 1 8 (.t 9) (.t 11)) 7,o2 (.store 1 (.t 2) (.t 12)) 8]))))) (.seq (.reg 9 2 [o1 13 (.load 1 .false (.t 2)) 9,o2 (.store 1 (.t 2) (.t 13)) 10])
 .ret))
def rs88:List IRes:=[.cell 2 1 .false]
set_option maxRecDepth 100000 in
theorem comp88:Comp Try.prog 49 ir88 rs88 14:=⟨⟨_,_,11,Try.func49,rfl,by kernel_rfl,by kernel_rfl,rfl⟩⟩
theorem body88:HasBody Try.prog 49:=hasBody_of (by kernel_rfl)
def ir89:IC :=
 .seq (.reg 1000 2 [o1 5 (.box 39 (.t 1)) 1000,o1 8 (.mv (.k (.bool .false))) 1001]) (.seq (.seq (.reg
 1002 8 [o1 12 (.mv (.t 3)) 1002,o1 13 (.faddr 0 (.t 5)) 1003,o1 14 (.load 1 .false (.t 13)) 1004,o1 15 (.len (.t 14)) 1005,o1 16 (.bin .add (.t 12) (.t 15)) 1006,
 o1 17 (.mv (.t 2)) 1007,o1 18 (.len (.t 17)) 1008,o1 19 (.bin .gtr (.t 16) (.t 18)) 1009]) (.cond (.t 19) (.seq (.reg 1010 1 [o1 8 (.mv (.k (.bool .false))) 1010]) .ret) .skip)) (.seq (.seq (.reg 1011 4
 [o1 20 (.faddr 0 (.t 5)) 1011,o1 21 (.load 1 .false (.t 20)) 1012,o1 22 (.len (.t 21)) 1013,o1 23 (.mv (.k (.int .i64 0))) 1014]) (.block 0 (.loop (.seq (.reg 1015 1 [o1 24 (.bin .lss (.t 23) (.t 22)) 1015]) (.seq (.cond (.t 24) .skip (.exit 0)) (.seq (.block 1 (.seq (.reg 1016 5 [o1 25 (.mv (.t 23)) 1016,
 o1 26 (.iaddr 1 (.t 21) (.t 23)) 1017,o1 27 (.load 1 .false (.t 26)) 1018,o1 9 (.mv (.t 25)) 1019,o1 10 (.mv (.t 27)) 1020]) (.seq (.draw 1021 14 [] [] [o3 28 (.mv (.t 0)) 1021,o3 29 (.nilc (.t 28)) 1022,o3 30 (.faddr 2 (.t 29)) 1023,o3 31 (.load 1 .false (.t 30)) 1024,o3 32 (.mv (.t 2)) 1025,o3 33 (.mv (.t 3)) 1026,o3 34 (.mv (.t 9)) 1027,o3 35 (.bin .add (.t 33) (.t 34)) 1028,o3 36 (.iaddr 1 (.t 32) (.t 35)) 1029,o3 37 (.load 1 .false (.t 36)) 1030,o3 38 (.iaddr 4 (.t 31) (.t 37)) 1031,o3 39 (.load 4 .true (.t 38)) 1032, .mk (.some 11) (.alloc 71 [.string
 (ByteArray.mk (Array.mk [])), .int .i64 0, .int .i64 0, .int .i64 0]) .none 1033 (.some []) .true [] .false, .mk .none (.store 4 (.t 11) (.t 39)) .none 1034 (.some [1033]) .true
 [] .false]) (.seq (.reg 1035 10 [o1 40 (.faddr 0 (.t 11)) 1035,o1 41 (.faddr 0 (.t 40)) 1036,o1 42 (.load 1 .false (.t 41)) 1037,o1 43 (.mv (.t 10)) 1038,o1 44 (.pur (.bin .neq 9) [.t 42, .t 43]) 1039,o1 45 (.mv (.t 44)) 1040, .mk (.some 46) (.mv (.t 0)) (.some (45, .false)) 1041 .none .false []
 .false, .mk (.some 47) (.load 4 .true (.t 11)) (.some (45, .false)) 1042 .none .false [] .false, .mk (.some 48) (.call 52 [.t 46, .t 47]) (.some (45, .false)) 1043 .none .false []
 .false,o1 49 (.pick (.t 45) (.k (.bool .true)) (.t 48)) 1044]) (.cond (.t 49) (.seq (.reg 1045 1 [o1 8 (.mv (.k (.bool .false))) 1045]) .ret) .skip))))) (.reg 1046 2 [o1 50 (.bin .add (.t 23) (.k (.int .i64 1))) 1046,o1 23 (.mv (.t 50)) 1047]))))))) (.seq (.reg 1048 1 [o1 8 (.mv (.k (.bool .true))) 1048]) .ret)))
def rs89:List IRes:=[.tmp 8]
set_option maxRecDepth 100000 in
theorem comp89:CompAt Try.prog 50 1000 ir89 rs89 51:=⟨⟨_,_,1049,Try.func50,rfl,by kernel_rfl,by kernel_rfl,rfl⟩⟩
theorem body89:HasBody Try.prog 50:=hasBody_of (by kernel_rfl)
def ir90:IC :=
 .seq (.reg 0 2 [o1 2 (.mv (.t 0)) 0,o1 3 (.un .not (.t 2)) 1]) (.cond (.t 3) (.reg 2 3 [o1 4 (.bld [] [] []) 2,o1 5 (.pur (.mki 85) [.t 4]) 3,o2 (.lenS (.k (.bool .true))) 4]) .skip)
def rs90:List IRes:=[]
set_option maxRecDepth 100000 in
theorem comp90:Comp Try.prog 51 ir90 rs90 6:=⟨⟨_,_,5,Try.func51,rfl,by kernel_rfl,by kernel_rfl,rfl⟩⟩
theorem body90:HasBody Try.prog 51:=hasBody_of (by kernel_rfl)
def ir99:IC :=
 .seq (.reg 0 1 [o1 2 (.mv (.k (.bool .false))) 0]) (.seq (.reg 1 7 [o1 3 (.mv (.t 0)) 1,o1 4 (.bin .leq (.k (.int .u8 33)) (.t 3)) 2,o1 5 (.mv (.t 4)) 3, .mk (.some 6) (.mv (.t 0)) (.some (5, .true)) 4
 .none .false [] .false, .mk (.some 7) (.bin .leq (.t 6) (.k (.int .u8 126))) (.some (5, .true)) 5 .none .false [] .false,o1 8 (.pick (.t 5) (.t 7) (.k (.bool .false))) 6,o1 2 (.mv (.t 8)) 7]) .ret)
def rs99:List IRes:=[.tmp 2]
set_option maxRecDepth 100000 in
theorem comp99:Comp Try.prog 65 ir99 rs99 9:=⟨⟨_,_,8,Try.func65,rfl,by kernel_rfl,by kernel_rfl,rfl⟩⟩
theorem body99:HasBody Try.prog 65:=hasBody_of (by kernel_rfl)
def ir104:IC :=
 .seq (.reg 0 1 [o1 4 (.mv (.k (.int .i64 0))) 0]) (.seq (.seq (.reg 1 3 [o1 6 (.mv (.t 0)) 1,o1 7 (.len (.t 6)) 2,o1 8 (.mv (.k (.int .i64 0))) 3]) (.block 0 (.loop (.seq (.reg 4 1 [o1 9 (.bin .lss (.t 8) (.t 7)) 4]) (.seq (.cond (.t 9) .skip (.exit 0)) (.seq (.block 1 (.seq (.reg 5 2 [o1 10 (.mv (.t 8)) 5,
 o1 5 (.mv (.t 10)) 6]) (.seq (.reg 7 6 [o1 11 (.mv (.t 1)) 7,o1 12 (.mv (.t 0)) 8,o1 13 (.mv (.t 5)) 9,o1 14 (.iaddr 1 (.t 12) (.t 13)) 10,o1 15 (.load 1 .false (.t 14)) 11,o1 16 (.bin .eql (.t 11) (.t 15)) 12]) (.cond (.t 16) (.seq (.reg 13 2 [o1 17 (.mv (.t 5)) 13,o1 4 (.mv (.t 17)) 14]) .ret) .skip)))) (.reg 15 2 [o1 18 (.bin .add (.t 8) (.k (.int .i64 1))) 15,o1 8 (.mv (.t 18)) 16]))))))) (.seq (.reg 17 1 [o1 4 (.mv (.k (.int .i64 (-1)))) 17]) .ret))
def rs104:List IRes:=[.tmp 4]
set_option maxRecDepth 100000 in
theorem comp104:Comp Try.prog 57 ir104 rs104 19:=⟨⟨_,_,18,Try.func57,rfl,by kernel_rfl,by kernel_rfl,rfl⟩⟩
theorem body104:HasBody Try.prog 57:=hasBody_of (by kernel_rfl)

end Go.Proofs.Ytfppbjfbghaclaa

namespace Go.Proofs.Ytfppbjfbghaclaa
open Go.Pal
def ir34:IC :=
 .seq (.reg 1000 3 [o1 2 (.box 25 (.t 0)) 1000,o1 4 (.mv (.k (.slice .none 0 0))) 1001,o1 5 (.mv (.k (.int .i64 0))) 1002]) (.seq (.reg 1003 11 [o1 10 (.load 2 .true (.t 2)) 1003,o1 11 (.mv (.t 1)) 1004,o1 12 (.call 13 [.t 10, .t 11]) 1005,o1 9 (.mv (.t 12)) 1006,
 o1 13 (.ext (.t 9) 0) 1007,o1 14 (.ext (.t 9) 1) 1008,o1 15 (.ext (.t 9) 2) 1009,o1 6 (.alloc 54 [.pointer .none]) 1010,o2 (.store 1 (.t 6) (.t 13)) 1011,o1 7 (.mv (.t 14)) 1012,o1 8 (.mv (.t 15)) 1013]) (.seq (.seq (.reg 1014 2 [o1 16 (.mv (.t 8)) 1014,o1 17 (.bin .neq (.t 16) (.k (.int .i64 0))) 1015]) (.cond (.t 17) (.seq (.reg 1016 3 [o1 18 (.mv (.t 8)) 1016,o1 4 (.mv (.k (.slice .none 0 0))) 1017,o1 5 (.mv (.t 18)) 1018]) .ret) .skip)) (.seq (.reg 1019 8 [o1 19 (.load 1 .false (.t 6)) 1019,o1 20 (.nilc (.t 19)) 1020,o1 21 (.faddr 3 (.t 20)) 1021,o1 22 (.load 1 .false (.t 21)) 1022,o1 23 (.mkf 15 [] [.t 6]) 1023,o1 24 (.call 14 [.t 22, .t 23]) 1024,o1 4 (.mv (.t 24)) 1025,o1 5 (.mv (.k (.int .i64 0))) 1026]) .ret)))
def rs34:List IRes:=[.tmp 4, .tmp 5]
set_option maxRecDepth 100000 in
theorem comp34:CompAt Try.prog 5 1000 ir34 rs34 25:=⟨⟨_,_,1027,Try.func5,rfl,by kernel_rfl,by kernel_rfl,rfl⟩⟩
theorem body34:HasBody Try.prog 5:=hasBody_of (by kernel_rfl)

def ir37:IC :=
 .seq (.reg 1000 3 [o1 2 (.box 25 (.t 0)) 1000,o1 4 (.mv (.k (.slice .none 0 0))) 1001,o1 5 (.mv (.k (.int .i64 0))) 1002]) (.seq (.reg 1003 1 [o1 6 (.mv (.f 20)) 1003]) (.seq (.seq (.reg 1004 14 [o1 12 (.load 2 .true (.t 2)) 1004,o1 13 (.call 22 [.t 12]) 1005,o1 14 (.un .not (.t 13)) 1006,o1 15 (.mv (.t 14)) 1007, .mk (.some 16) (.mv (.t 1)) (.some (15, .false)) 1008 .none .false [] .false, .mk
 (.some 17) (.len (.t 16)) (.some (15, .false)) 1009 .none .false [] .false, .mk (.some 18) (.bin .gtr (.t 17) (.k (.int .i64 10))) (.some (15, .false)) 1010 .none .false []
 .false,o1 19 (.pick (.t 15) (.k (.bool .true)) (.t 18)) 1011,o1 20 (.mv (.t 19)) 1012, .mk (.some 21)
 (.mv (.t 1)) (.some (20, .false)) 1013 .none .false [] .false, .mk (.some 22) (.mv (.t 6)) (.some (20, .false)) 1014 .none .false [] .false, .mk (.some 23) (.call 23 [.t 21, .t
 22]) (.some (20, .false)) 1015 .none .false [] .false, .mk (.some 24) (.un .not (.t 23)) (.some (20, .false)) 1016 .none .false [] .false,o1 25 (.pick (.t 20) (.k (.bool .true)) (.t 24)) 1017]) (.cond (.t 25) (.seq (.reg 1018 2 [o1 4 (.mv (.k (.slice .none 0 0))) 1018,o1 5 (.mv (.k (.int .i64 1))) 1019]) .ret) .skip)) (.seq (.reg 1020 3 [o1 26 (.load 2 .true (.t 2)) 1020,o1 27 (.call 24 [.t 26]) 1021,o1 7 (.mv (.t 27)) 1022]) (.seq (.reg 1023 1 [o1 8 (.mv (.k (.slice .none 0 0))) 1023]) (.seq (.seq (.reg 1024 6 [o1 28 (.mv (.t 7)) 1024,o1 29 (.mv (.t 1)) 1025,o1 30 (.bld [(0,1),(1,1)] [.int .i64 0, .int .i64 0] []) 1026,o1 31 (.call 25 [.t 28, .t 29, .t 30]) 1027,o1 9 (.alloc 78 [.int .i64 0, .int .i64 0]) 1028,o2 (.store 2 (.t 9) (.t 31)) 1029]) (.block 0 (.loop (.seq (.seq (.draw 1030 3 [] [] [o3 32 (.load 2 .true (.t 9)) 1030,o3 33 (.call 26 []) 1031, .mk (.some 34) (.pur (.bin .neq 78) [.t 32, .t 33]) .none 1032 (.some [1031]) .true [] .false]) (.cond (.t 34) .skip (.exit 0))) (.seq
 (.block 1 (.seq (.reg 1033 7 [o1 35 (.mv (.t 1)) 1033,o1 36 (.faddr 0 (.t 9)) 1034,o1 37 (.load 1 .false (.t 36)) 1035,o1 38 (.iaddr 2 (.t 35) (.t 37)) 1036,o1 39 (.load 2 .true (.t 38)) 1037,o1 10 (.alloc 39 [.slice .none 0 0, .slice .none 0 0]) 1038,o2 (.store 2 (.t 10) (.t 39)) 1039]) (.seq (.draw 1040 11 [10] [] [o3 40 (.faddr 1 (.t 9)) 1040,o3 41 (.load 1 .false (.t 40)) 1041,o3 42 (.faddr 0 (.t 10)) 1042,o3 43 (.load 1 .false (.t 42)) 1043,o3 44 (.len (.t 43)) 1044,o3 45 (.faddr 1 (.t 10)) 1045,o3 46 (.load 1 .false (.t 45)) 1046,o3 47 (.call 27 [.t 46]) 1047, .mk (.some 48) (.bld [(0,1),(1,1),(2,1),(3,
 1)] [.int .i64 0, .int .i64 0, .int .i64 0, .slice .none 0 0] [(0, .k (.int .i64 0)),(1, .t 41),(2, .t 44),(3, .t 47)]) .none 1048 (.some [1047]) .true [] .false,o3 11 (.alloc 45 [.int .i64 0, .int .i64 0, .int .i64 0, .slice .none 0 0]) 1049, .mk .none (.store 4 (.t 11) (.t 48)) .none 1050 (.some [1047,
 1049]) .true [] .false]) (.seq (.seq (.reg 1051 3 [o1 49 (.mv (.t 8)) 1051,o1 50 (.len (.t 49)) 1052,
 o1 51 (.bin .eql (.t 50) (.k (.int .i64 80))) 1053]) (.cond (.t 51) (.seq (.reg 1054 2 [o1 4 (.mv (.k (.slice .none 0 0))) 1054,o1 5 (.mv (.k (.int .i64 3))) 1055]) .ret) .skip)) (.seq (.reg 1056 5 [o1 52 (.mv (.t 8)) 1056,o1 53 (.load 4 .true (.t 11)) 1057,o1 54 (.bsl 45 4 1 [.int .i64 0, .int .i64 0, .int .i64 0, .slice .none 0 0] [(0, .t 53)]) 1058,o1 55 (.app 45 4 48 (.t 52) (.t 54)) 1059,o1 8 (.mv (.t 55)) 1060]) (.seq (.reg 1061 3 [o1 56 (.mv (.t 7)) 1061,o1 57 (.load 4 .true (.t 11)) 1062,o1 58 (.call 28 [.t 56, .t 57]) 1063]) (.reg 1064 13 [o1 59 (.mv (.t 7)) 1064,o1 60 (.mv (.t 1)) 1065,o1 61 (.faddr 0 (.t 9)) 1066,o1 62 (.load 1 .false (.t 61)) 1067,
 o1 63 (.faddr 1 (.t 9)) 1068,o1 64 (.load 1 .false (.t 63)) 1069,o1 65 (.faddr 1 (.t 10)) 1070,o1 66 (.load 1 .false (.t 65)) 1071,o1 67 (.len (.t 66)) 1072,o1 68 (.bin .add (.t 64) (.t 67)) 1073,o1 69 (.bld [(0,1),(1,1)] [.int .i64 0, .int .i64 0] [(0, .t 62),(1, .t 68)]) 1074,o1 70 (.call 25 [.t 59, .t 60, .t 69]) 1075,o2 (.store 2 (.t 9) (.t 70)) 1076]))))))) (.seq (.reg 1077 1 [o1 71 (.load 2 .true (.t 9)) 1077]) (.reg 1078 2 [o1 9 (.alloc 78 [.int .i64 0, .int .i64 0]) 1078,o2 (.store 2 (.t 9) (.t 71)) 1079]))))))) (.seq (.reg 1080 3 [o1 72 (.mv (.t 8)) 1080,o1 4 (.mv (.t 72)) 1081,o1 5 (.mv (.k (.int .i64 0))) 1082]) .ret))))))
def rs37:List IRes:=[.tmp 4, .tmp 5]
set_option maxRecDepth 100000 in
theorem comp37:CompAt Try.prog 7 1000 ir37 rs37 73:=⟨⟨_,_,1083,Try.func7,rfl,by kernel_rfl,by kernel_rfl,rfl⟩⟩
theorem body37:HasBody Try.prog 7:=hasBody_of (by kernel_rfl)

def ir55:IC :=
 .seq (.reg 1000 1 [o1 4 (.mv (.k (.slice .none 0 0))) 1000]) (.seq (.reg 1001 4 [o1 8 (.mv (.t 0)) 1001,
 o1 9 (.mv (.t 1)) 1002,o1 10 (.call 32 [.t 8, .t 9]) 1003,o1 5 (.mv (.t 10)) 1004]) (.seq (.seq (.reg 1005 2 [o1 11 (.mv (.t 5)) 1005,o1 12 (.bin .eql (.t 11) (.k (.int .i64 (-1)))) 1006]) (.cond (.t 12) (.seq (.reg 1007 2 [o1 13 (.mv (.t 0)) 1007,o1 4 (.mv (.t 13)) 1008]) .ret) .skip)) (.seq (.seq (.reg 1009 3 [o1 14 (.mv (.t 5)) 1009,o1 15 (.bin .add (.t 14) (.k (.int .i64 1))) 1010,o1 6 (.mv (.t 15)) 1011]) (.block 0 (.loop (.seq (.seq (.reg 1012 4 [o1 16 (.mv (.t 6)) 1012,o1 17 (.mv (.t 0)) 1013,o1 18 (.len (.t 17)) 1014,o1 19 (.bin .lss (.t 16) (.t 18)) 1015]) (.cond (.t 19) .skip (.exit 0))) (.seq (.block 1 (.seq (.reg 1016 5 [o1 22 (.mv (.t 0)) 1016,
 o1 23 (.mv (.t 6)) 1017,o1 24 (.iaddr 1 (.t 22) (.t 23)) 1018,o1 25 (.load 1 .false (.t 24)) 1019,o1 7 (.mv (.t 25)) 1020]) (.seq (.reg 1021 4 [o1 26 (.mv (.t 1)) 1021,o1 27 (.mv (.t 7)) 1022,o1 28 (.callv (.t 26) [.t 27]) 1023,o1 29 (.un .not (.t 28)) 1024]) (.cond (.t 29) (.seq (.reg 1025 5 [o1 30 (.mv (.t 0)) 1025,o1 31 (.mv (.t 5)) 1026,o1 32 (.mv (.t 7)) 1027,o1 33 (.iaddr 1 (.t 30) (.t 31)) 1028,o2 (.store 1 (.t 33) (.t 32)) 1029]) (.reg 1030 3 [o1 34 (.mv (.t 5)) 1030,o1 35 (.bin .add (.t 34) (.k (.int .i64 1))) 1031,o1 5 (.mv (.t 35)) 1032])) .skip)))) (.reg 1033 3 [o1 20 (.mv (.t 6)) 1033,o1 21 (.bin .add (.t 20) (.k (.int .i64 1))) 1034,o1 6 (.mv (.t 21)) 1035]))))))
 (.seq (.reg 1036 4 [o1 36 (.mv (.t 0)) 1036,o1 37 (.mv (.t 5)) 1037,o1 38 (.slc 1 (.t 36) (.some (.t 37)) .none .none) 1038,o2 (.clr [.int .i64 0] (.t 38)) 1039]) (.seq (.reg 1040 4 [o1 39 (.mv (.t 0)) 1040,o1 40 (.mv (.t 5)) 1041,o1 41 (.slc 1 (.t 39) .none (.some (.t 40)) .none) 1042,o1 4 (.mv (.t 41)) 1043]) .ret)))))
def rs55:List IRes:=[.tmp 4]
set_option maxRecDepth 100000 in
theorem comp55:CompAt Try.prog 14 1000 ir55 rs55 42:=⟨⟨_,_,1044,Try.func14,rfl,by kernel_rfl,by kernel_rfl,rfl⟩⟩
theorem body55:HasBody Try.prog 14:=hasBody_of (by kernel_rfl)

def ir93:IC :=
 .seq (.reg 1000 1 [o1 4 (.mv (.k (.slice .none 0 0))) 1000]) (.seq (.reg 1001 4 [o1 8 (.mv (.t 0)) 1001,
 o1 9 (.mv (.t 1)) 1002,o1 10 (.call 72 [.t 8, .t 9]) 1003,o1 5 (.mv (.t 10)) 1004]) (.seq (.seq (.reg 1005 2 [o1 11 (.mv (.t 5)) 1005,o1 12 (.bin .eql (.t 11) (.k (.int .i64 (-1)))) 1006]) (.cond (.t 12) (.seq (.reg 1007 2 [o1 13 (.mv (.t 0)) 1007,o1 4 (.mv (.t 13)) 1008]) .ret) .skip)) (.seq (.seq (.reg 1009 3 [o1 14 (.mv (.t 5)) 1009,o1 15 (.bin .add (.t 14) (.k (.int .i64 1))) 1010,o1 6 (.mv (.t 15)) 1011]) (.block 0 (.loop (.seq (.seq (.reg 1012 4 [o1 16 (.mv (.t 6)) 1012,o1 17 (.mv (.t 0)) 1013,o1 18 (.len (.t 17)) 1014,o1 19 (.bin .lss (.t 16) (.t 18)) 1015]) (.cond (.t 19) .skip (.exit 0))) (.seq (.block 1 (.seq (.reg 1016 6 [o1 22 (.mv (.t 0)) 1016,
 o1 23 (.mv (.t 6)) 1017,o1 24 (.iaddr 4 (.t 22) (.t 23)) 1018,o1 25 (.load 4 .true (.t 24)) 1019, .mk (.some 7) (.alloc 71 [.string (ByteArray.mk (Array.mk [])), .int .i64 0, .int .i64 0, .int .i64 0]) .none 1020 .none .false [] .false,o2 (.store 4 (.t 7) (.t 25)) 1021]) (.seq (.reg 1022 4 [o1 26 (.mv (.t 1)) 1022,o1 27 (.load 4 .true (.t 7)) 1023,o1 28 (.callv (.t 26) [.t 27]) 1024,o1 29 (.un .not (.t 28)) 1025]) (.cond (.t 29) (.seq (.reg 1026 5 [o1 30 (.mv (.t 0)) 1026,o1 31 (.mv (.t 5)) 1027,
 o1 32 (.load 4 .true (.t 7)) 1028,o1 33 (.iaddr 4 (.t 30) (.t 31)) 1029,o2 (.store 4 (.t 33) (.t 32)) 1030]) (.reg 1031 3 [o1 34 (.mv (.t 5)) 1031,o1 35 (.bin .add (.t 34) (.k (.int .i64 1))) 1032,o1 5 (.mv (.t 35)) 1033])) .skip)))) (.reg 1034 3 [o1 20 (.mv (.t 6)) 1034,o1 21 (.bin .add (.t 20) (.k (.int .i64 1))) 1035,o1 6 (.mv (.t 21)) 1036])))))) (.seq (.reg
 1037 4 [o1 36 (.mv (.t 0)) 1037,o1 37 (.mv (.t 5)) 1038,o1 38 (.slc 4 (.t 36) (.some (.t 37)) .none .none) 1039, .mk .none (.clr [.string (ByteArray.mk (Array.mk [])), .int .i64 0, .int .i64 0, .int .i64 0] (.t 38)) .none 1040 .none .false
 [] .false]) (.seq (.reg 1041 4 [o1 39 (.mv (.t 0)) 1041,o1 40 (.mv (.t 5)) 1042,o1 41 (.slc 4 (.t 39) .none (.some (.t 40)) .none) 1043,o1 4 (.mv (.t 41)) 1044]) .ret)))))
def rs93:List IRes:=[.tmp 4]
set_option maxRecDepth 100000 in
theorem comp93:CompAt Try.prog 54 1000 ir93 rs93 42:=⟨⟨_,_,1045,Try.func54,rfl,by kernel_rfl,by kernel_rfl,rfl⟩⟩
theorem body93:HasBody Try.prog 54:=hasBody_of (by kernel_rfl)

def ir110:IC :=
 .seq (.reg 1000 1 [o1 6 (.mv (.k (.slice .none 0 0))) 1000]) (.seq (.reg 1001 3 [o1 10 (.mv (.t 0)) 1001,
 o1 11 (.mv (.t 1)) 1002,o1 12 (.slc 4 (.t 10) (.some (.t 11)) .none .none) 1003]) (.seq (.reg 1004 3
 [o1 13 (.mv (.t 2)) 1004,o1 14 (.len (.t 13)) 1005,o1 7 (.mv (.t 14)) 1006]) (.seq (.seq (.reg 1007 2 [o1 15 (.mv (.t 7)) 1007,o1 16 (.bin .eql (.t 15) (.k (.int .i64 0))) 1008]) (.cond (.t 16) (.seq (.reg 1009 2 [o1 17 (.mv (.t 0)) 1009,o1 6 (.mv (.t 17)) 1010]) .ret) .skip)) (.seq (.reg 1011 3 [o1 18 (.mv (.t 0)) 1011,o1 19 (.len (.t 18)) 1012,o1 8 (.mv (.t 19)) 1013]) (.seq (.seq (.reg 1014 3 [o1 20 (.mv (.t 1)) 1014,o1 21 (.mv (.t 8)) 1015,o1 22 (.bin .eql (.t 20) (.t 21)) 1016]) (.cond (.t 22) (.seq (.reg 1017 4 [o1 23 (.mv (.t 0)) 1017,o1 24 (.mv (.t 2)) 1018,o1 25 (.apph 71 4 40 (.t 23) (.t 24)) 1019,o1 6 (.mv (.t 25)) 1020]) .ret) .skip)) (.seq (.seq (.reg 1021 6 [o1 26 (.mv (.t 8)) 1021,o1 27 (.mv (.t 7)) 1022,o1 28 (.bin .add (.t 26) (.t 27)) 1023,o1 29 (.mv (.t 0)) 1024,o1 30 (.cap (.t 29)) 1025,o1 31 (.bin .gtr (.t 28) (.t 30)) 1026]) (.cond (.t
 31) (.seq (.reg 1027 10 [o1 32 (.mv (.t 0)) 1027,o1 33 (.mv (.t 1)) 1028,o1 34 (.slc 4 (.t 32) .none (.some (.t 33)) .none) 1029,o1 35 (.mv (.t 8)) 1030,o1 36 (.mv (.t 7)) 1031,o1 37 (.bin .add (.t 35) (.t 36)) 1032,o1 38 (.mv (.t 1)) 1033,o1 39 (.bin .sub (.t 37) (.t 38)) 1034, .mk (.some 40) (.appz 71 4 40 [.string (ByteArray.mk (Array.mk [])), .int .i64 0, .int .i64 0, .int .i64 0] (.t 34) (.t
 39)) .none 1035 .none .false [] .false,o1 9 (.mv (.t 40)) 1036]) (.seq (.reg 1037 5 [o1 41 (.mv (.t 9)) 1037,o1 42 (.mv (.t 1)) 1038,o1 43 (.slc 4 (.t 41) (.some (.t 42)) .none .none) 1039,o1 44 (.mv (.t 2)) 1040,o1 45 (.cpy 4 (.t 43) (.t 44)) 1041]) (.seq (.draw 1042 9 [0,9] [] [o3 46 (.mv (.t 9)) 1042,o3 47 (.mv (.t 1)) 1043,o3 48 (.mv (.t 7)) 1044,o3 49 (.bin .add (.t 47) (.t 48)) 1045,o3 50 (.slc 4 (.t 46) (.some (.t 49)) .none .none) 1046,o3 51 (.mv (.t 0)) 1047,o3 52 (.mv (.t 1)) 1048,o3 53 (.slc 4 (.t 51) (.some (.t 52)) .none .none) 1049,o3 54 (.cpy 4 (.t 50) (.t 53)) 1050]) (.seq (.reg 1051 2 [o1 55 (.mv (.t 9)) 1051,o1 6 (.mv (.t 55)) 1052]) .ret)))) .skip)) (.seq (.reg 1053 6 [o1 56 (.mv (.t 0)) 1053,o1 57 (.mv (.t 8)) 1054,o1 58 (.mv (.t 7)) 1055,o1 59 (.bin .add (.t 57) (.t 58)) 1056,o1 60 (.slc 4 (.t 56) .none (.some (.t 59)) .none) 1057,o1 0 (.mv (.t 60)) 1058]) (.seq (.seq (.reg 1059 8 [o1 61 (.mv (.t 2)) 1059,o1 62 (.mv (.t 0)) 1060,o1 63 (.mv (.t 1)) 1061,o1 64 (.mv (.t 7)) 1062,o1 65 (.bin .add (.t 63) (.t 64)) 1063,o1 66 (.slc 4 (.t 62) (.some (.t 65)) .none .none) 1064,o1 67 (.call 79 [.t 61, .t 66]) 1065,o1 68 (.un .not (.t 67)) 1066]) (.cond (.t 68) (.seq (.draw 1067 9 [0] [] [o3 69 (.mv (.t 0)) 1067,o3 70 (.mv (.t 1)) 1068,o3 71 (.mv (.t 7)) 1069,
 o3 72 (.bin .add (.t 70) (.t 71)) 1070,o3 73 (.slc 4 (.t 69) (.some (.t 72)) .none .none) 1071,o3 74 (.mv (.t 0)) 1072,o3 75 (.mv (.t 1)) 1073,o3 76 (.slc 4 (.t 74) (.some (.t 75)) .none .none) 1074,o3 77 (.cpy 4 (.t 73) (.t 76)) 1075]) (.seq (.reg 1076 5 [o1 78 (.mv (.t 0)) 1076,o1 79 (.mv (.t 1)) 1077,o1 80 (.slc 4 (.t 78) (.some (.t 79)) .none .none) 1078,o1 81 (.mv (.t 2)) 1079,o1 82 (.cpy 4 (.t 80) (.t 81)) 1080]) (.seq (.reg
 1081 2 [o1 83 (.mv (.t 0)) 1081,o1 6 (.mv (.t 83)) 1082]) .ret))) .skip)) (.seq (.reg 1083 5 [o1 84 (.mv (.t 0)) 1083,o1 85 (.mv (.t 8)) 1084,o1 86 (.slc 4 (.t 84) (.some (.t 85)) .none .none) 1085,o1 87 (.mv (.t 2)) 1086,o1 88 (.cpy 4 (.t 86) (.t 87)) 1087]) (.seq (.reg 1088 5 [o1 89 (.mv (.t 0)) 1088,o1 90 (.mv (.t 1)) 1089,o1 91 (.slc 4 (.t 89) (.some (.t 90)) .none .none) 1090,o1 92 (.mv (.t 7)) 1091,o1 93 (.call 80 [.t 91, .t 92]) 1092]) (.seq (.reg 1093 2 [o1 94 (.mv (.t 0)) 1093,o1 6 (.mv (.t 94)) 1094]) .ret)))))))))))
def rs110:List IRes:=[.tmp 6]
set_option maxRecDepth 100000 in
theorem comp110:CompAt Try.prog 71 1000 ir110 rs110 95:=⟨⟨_,_,1095,Try.func71,rfl,by kernel_rfl,by kernel_rfl,rfl⟩⟩
theorem body110:HasBody Try.prog 71:=hasBody_of (by kernel_rfl)

end Go.Proofs.Ytfppbjfbghaclaa

namespace Go.Proofs.Ytfppbjfbghaclaa
open Go.Pal
def ir70b:IC :=
 .seq (.reg 4 2 [o1 4 (.box 71 (.t 0)) 4,o1 5 (.mv (.k (.slice .none 0 0))) 5]) (.seq (.seq (.reg 6 4
 [o1 11 (.faddr 0 (.t 4)) 6,o1 12 (.faddr 1 (.t 11)) 7,o1 13 (.load 1 .false (.t 12)) 8,o1 14 (.bin .geq (.t 13) (.k (.int .i64 0))) 9]) (.cond (.t 14) (.seq (.reg 10 5 [o1 15 (.faddr 0 (.t 4)) 10,o1 16 (.faddr 1 (.t 15)) 11,o1 17 (.load 1 .false (.t 16)) 12,o1 18 (.bsl 3 1 1 [.int .i64 0] [(0, .t 17)]) 13,o1 5 (.mv (.t 18)) 14]) .ret) .skip)) (.seq (.seq (.reg
 15 10 [o1 20 (.load 1 .false (.t 1)) 15,o1 21 (.faddr 0 (.t 4)) 16,o1 22 (.faddr 2 (.t 21)) 17,o1 23 (.load 1 .false (.t 22)) 18,o1 24 (.lkp 3 (.slice .none 0 0) .true (.t 20) (.t 23)) 19,o1 19 (.mv (.t 24)) 20,o1 25 (.ext (.t 19) 0) 21,o1 26 (.ext (.t 19) 1) 22,o1 6 (.mv (.t 25)) 23,o1 7 (.mv (.t 26)) 24]) (.seq (.reg 25 1
 [o1 27 (.mv (.t 7)) 25]) (.cond (.t 27) (.seq (.reg 26 2 [o1 28 (.mv (.t 6)) 26,o1 5 (.mv (.t 28)) 27]) .ret) .skip))) (.seq (.reg 28 1 [o1 8 (.mv (.k (.slice .none 0 0))) 28]) (.seq (.seq (.reg 29 6 [o1 29 (.load 1 .false (.t 2)) 29,o1 30 (.nilc (.t 29)) 30,o1 31 (.faddr 2 (.t 30)) 31,o1 32 (.load 1 .false (.t 31)) 32,o1 33 (.len (.t 32)) 33,o1 34 (.mv (.k (.int .i64 0))) 34]) (.block 0 (.loop (.seq (.reg 35 1 [o1 35 (.bin .lss (.t 34) (.t 33)) 35]) (.seq (.cond
 (.t 35) .skip (.exit 0)) (.seq (.block 1 (.seq (.reg 36 4 [o1 36 (.iaddr 4 (.t 32) (.t 34)) 36,o1 37 (.load 4 .true (.t 36)) 37, .mk (.some 10) (.alloc 71 [.string (ByteArray.mk (Array.mk [])), .int .i64 0, .int .i64 0, .int .i64 0]) .none 38 .none .false [] .false,o2 (.store 4 (.t 10) (.t 37)) 39]) (.seq (.reg 40 6 [o1 38 (.faddr 3 (.t 10)) 40,o1 39 (.load 1 .false (.t 38)) 41,o1 40 (.faddr 0 (.t 4)) 42,o1 41 (.faddr 2 (.t 40)) 43,o1 42 (.load 1 .false (.t 41)) 44,o1 43 (.bin .eql (.t 39) (.t 42)) 45]) (.cond (.t 43) (.reg 46 6 [o1 44 (.mv (.t 8)) 46,o1 45 (.load 1 .false (.t 3)) 47,o1 46 (.load 4 .true (.t 10)) 48,o1 47 (.callv (.t 45) [.t 46]) 49,o1 48 (.app 3 1 8 (.t 44) (.t 47)) 50,o1 8 (.mv (.t 48)) 51]) .skip)))) (.reg 52 2 [o1 49 (.bin .add (.t 34) (.k (.int .i64 1))) 52,o1 34 (.mv (.t 49)) 53]))))))) (.seq (.drawd 54 7 [] [] [] [.some [1], .none, .none, .some [4], .none, .some [8], .none] [(0,o3 50 (.load 1 .false (.t 1)) 54),(1,o3 51 (.faddr 0 (.t 4)) 55),(2, .mk (.some 52) (.faddr 2 (.t 51)) .none 56
 (.some []) .true [1] .false),(3, .mk (.some 53) (.load 1 .false (.t 52)) .none 57 (.some []) .true [1,2] .false),(4,o3 54 (.mv (.t 8)) 58),(5, .mk (.some 55) (.cut 37 (.t 54) []) .none 59 (.some []) .true [4] .true),(6, .mk .none (.mup 3 (.t 50) (.t 53) (.t 55)) .none 60 (.some []) .true [4,5,2,1,3,0]
 .false)]) (.seq (.reg 61 6 [o1 56 (.load 1 .false (.t 1)) 61,o1 57 (.faddr 0 (.t 4)) 62,o1 58 (.faddr 2 (.t 57)) 63,o1 59 (.load 1 .false (.t 58)) 64,o1 60 (.lkp 3 (.slice .none 0 0) .false (.t 56) (.t 59)) 65,o1 5 (.mv (.t 60)) 66]) .ret))))))
def rs70b:List IRes:=[.tmp 5]
set_option maxRecDepth 100000 in
theorem comp70b:CompAt Try.prog 36 4 ir70b rs70b 61:=⟨⟨_,_,67,Try.func36,rfl,by kernel_rfl,by kernel_rfl,rfl⟩⟩

def ir16b:IC :=
 .seq (.reg 1000 4 [o1 2 (.box 25 (.t 0)) 1000,o1 4 (.alloc 32 [.slice .none 0 0]) 1001,o1 5 (.mv (.k (.slice .none 0 0))) 1002,o1 6 (.mv (.k (.int .i64 0))) 1003]) (.seq (.reg 1004 11 [o1 18 (.load 2 .true (.t 2)) 1004,o1 19 (.mv (.t 1)) 1005,o1 20 (.call 13 [.t 18, .t 19]) 1006,o1 17 (.mv (.t 20)) 1007,o1 21 (.ext (.t 17) 0) 1008,o1 22 (.ext (.t 17) 1) 1009,o1 23 (.ext (.t 17) 2) 1010,o1 7 (.alloc 54 [.pointer .none]) 1011,o2 (.store 1 (.t 7) (.t 21)) 1012,o1 8 (.mv (.t 22)) 1013,o1 6 (.mv (.t 23)) 1014]) (.seq (.seq (.reg 1015 2 [o1 24 (.mv (.t 6)) 1015,o1 25 (.bin .neq (.t 24) (.k (.int .i64 0))) 1016]) (.cond (.t 25) (.seq (.reg 1017 4 [o1 26 (.mv (.t 6)) 1017,o2 (.store 1 (.t 4) (.k (.slice .none 0 0))) 1018,o1 5 (.mv (.k (.slice .none 0 0))) 1019,o1 6 (.mv (.t 26)) 1020])
 .ret) .skip)) (.seq (.reg 1021 4 [o1 27 (.load 1 .false (.t 7)) 1021,o1 28 (.call 17 [.t 27]) 1022,
 o1 9 (.alloc 62 [.nilFunc]) 1023,o2 (.store 1 (.t 9) (.t 28)) 1024]) (.seq (.reg 1025 3 [o1 29 .mkm 1025,o1 10 (.alloc 64 [.map .none]) 1026,o2 (.store 1 (.t 10) (.t 29)) 1027]) (.seq (.seq (.reg 1028 2 [o1 30 (.load 1 .false (.t 7)) 1028,o1 31 (.call 18 [.t 30]) 1029])
 (.block 0 (.range (.t 31) [32,33] (.reg 1030 1 [o1 12 (.mv (.t 33)) 1030]) (.block 1 (.seq (.draw 1031 10 [] [] [o3 34 (.load 1 .false (.t 9)) 1031,o3 35 (.load 1 .false (.t 7)) 1032,o3 36 (.nilc (.t 35)) 1033,o3 37 (.faddr 2 (.t 36)) 1034,o3 38 (.load 1 .false (.t 37)) 1035,
 o3 39 (.mv (.t 12)) 1036,o3 40 (.iaddr 4 (.t 38) (.t 39)) 1037,o3 41 (.load 4 .true (.t 40)) 1038,o3 42 (.callv (.t 34) [.t 41]) 1039, .mk (.some 13) (.mv (.t 42)) .none 1040 (.some
 [1039]) .true [] .false]) (.seq (.draw 1041 7 [13,2] [] [o3 43 (.load 1 .false (.t 4)) 1041,o3 44 (.load 2 .true (.t 2)) 1042,o3 45 (.mv (.t 13)) 1043,o3 46 (.call 19 [.t 44, .t 45]) 1044, .mk (.some 47) (.bsl 48 4 1 [.slice .none 0 0, .int .i64 0, .int .i64 0, .slice .none 0 0] [(0, .t 46)]) .none 1045 (.some [1044]) .true [] .false, .mk (.some 48) (.apph
 48 4 64 (.t 43) (.t 47)) .none 1046 (.some [0,1044,1045]) .false [] .true, .mk .none (.store 1 (.t 4) (.t 48)) .none 1047 (.some [1045,1044]) .true [] .false]) (.seq (.reg 1048
 3 [o1 49 (.mv (.t 13)) 1048,o1 50 (.len (.t 49)) 1049,o1 51 (.mv (.k (.int .i64 0))) 1050]) (.block 2 (.loop (.seq (.reg 1051 1 [o1 52 (.bin .lss (.t 51) (.t 50)) 1051]) (.seq (.cond (.t 52) .skip (.exit
 2)) (.seq (.block 3 (.seq (.reg 1052 3 [o1 53 (.iaddr 1 (.t 49) (.t 51)) 1052,o1 54 (.load 1 .false (.t 53)) 1053,o1 15 (.mv (.t 54)) 1054]) (.reg 1055 3 [o1 55 (.load 1 .false (.t 10)) 1055,o1 56 (.mv (.t 15)) 1056,o2 (.mup 3 (.t 55) (.t 56) (.k (.bool .true))) 1057]))) (.reg 1058 2 [o1 57 (.bin .add (.t 51) (.k (.int .i64 1))) 1058,o1 51 (.mv (.t 57)) 1059]))))))))))))) (.seq (.seq (.reg 1060 4
 [o1 58 (.faddr 0 (.t 2)) 1060,o1 59 (.load 1 .false (.t 58)) 1061,o1 60 (.len (.t 59)) 1062,o1 61 (.mv (.k (.int .i64 0))) 1063]) (.block 4 (.loop (.seq (.reg 1064 1 [o1 62 (.bin .lss (.t 61) (.t 60)) 1064]) (.seq (.cond (.t 62) .skip (.exit 4)) (.seq (.block 5 (.seq (.reg 1065 2 [o1 63 (.mv (.t 61)) 1065,
 o1 16 (.mv (.t 63)) 1066]) (.seq (.reg 1067 4 [o1 64 (.load 1 .false (.t 10)) 1067,o1 65 (.mv (.t 16)) 1068,o1 66 (.lkp 3 (.bool .false) .false (.t 64) (.t 65)) 1069,o1 67 (.un .not (.t 66)) 1070]) (.cond (.t 67) (.reg 1071 5 [o1 68 (.mv (.t 5)) 1071,o1 69 (.mv (.t 16)) 1072,o1 70 (.bsl 3 1 1 [.int .i64 0] [(0, .t 69)]) 1073,o1 71 (.app 3 1 8 (.t 68) (.t 70)) 1074,o1 5 (.mv (.t 71)) 1075]) .skip)))) (.reg 1076 2 [o1 72 (.bin .add (.t 61) (.k (.int .i64 1))) 1076,o1 61 (.mv (.t 72)) 1077]))))))) (.seq (.reg 1078 5 [o1 73 (.load 1 .false (.t 4)) 1078,o1 74 (.mv (.t 5)) 1079,o2 (.store 1 (.t 4) (.t 73)) 1080,o1 5 (.mv (.t 74)) 1081,o1 6 (.mv (.k (.int .i64 0))) 1082]) .ret)))))))
def rs16b:List IRes:=[.cell 4 1 .false, .tmp 5, .tmp 6]
set_option maxRecDepth 100000 in
theorem comp16b:CompAt Try.prog 6 1000 ir16b rs16b 75:=⟨⟨_,_,1083,Try.func6,rfl,by kernel_rfl,by kernel_rfl,rfl⟩⟩

end Go.Proofs.Ytfppbjfbghaclaa

namespace Go.Proofs.Ytfppbjfbghaclaa
open Go.Pal
def ir41x:IC :=
 .seq (.reg 5000 2 [o1 0 (.alloc 25 [.slice .none 0 0, .slice .none 0 0]) 5000,o1 1 (.mv (.k (.slice .none 0 0))) 5001]) (.seq (.reg 5002 1 [o1 2 (.alloc 25 [.slice .none 0 0, .slice .none 0 0]) 5002]) (.seq (.reg 5003 2 [.mk (.some 6) (.bslx
 9 1 6 [.string (ByteArray.mk (Array.mk [])), .string (ByteArray.mk (Array.mk [])), .string (ByteArray.mk (Array.mk [])), .string (ByteArray.mk (Array.mk [])), .string
 (ByteArray.mk (Array.mk [])), .string (ByteArray.mk (Array.mk []))] [(0, .k (.string (ByteArray.mk (Array.mk [116,104,101])))),(1, .k (.string (ByteArray.mk (Array.mk [104,
 111,110,111,117,114,97,98,108,101])))),(2, .k (.string (ByteArray.mk (Array.mk [109,101,109,98,101,114])))),(3, .k (.string (ByteArray.mk (Array.mk [101,114])))),
 (4, .k (.string (ByteArray.mk (Array.mk [115,97,121,115])))),(5, .k (.string (ByteArray.mk (Array.mk [110,111]))))]) .none 5003 .none .false [] .false,o1 3 (.mv (.t 6)) 5004]) (.seq (.reg 5005 2 [o1 7 (.bslx 3 1 6 [.int .i64 0, .int .i64 0, .int .i64 0, .int .i64 0, .int .i64 0, .int .i64 0] [(0, .k (.int .i64 1)),(1, .k (.int .i64 1)),(2, .k (.int .i64 2)),(3, .k (.int .i64 3)),(4, .k (.int .i64 4)),(5, .k (.int .i64 5))]) 5005,o1 4 (.mv (.t 7)) 5006]) (.seq (.seq (.reg 5007 1 [o1 5 (.mv (.k (.int .i64 0))) 5007]) (.block 0 (.loop (.seq (.seq (.reg
 5008 4 [o1 8 (.mv (.t 5)) 5008,o1 9 (.mv (.t 3)) 5009,o1 10 (.len (.t 9)) 5010,o1 11 (.bin .lss (.t 8) (.t 10)) 5011]) (.cond (.t 11) .skip (.exit 0))) (.seq (.block 1 (.draw 5012 15 [] [] [o3 14 (.faddr 0 (.t 2)) 5012,o3 15 (.load 1 .false (.t 14)) 5013,o3 16 (.mv (.t 3)) 5014,o3 17 (.mv (.t 5)) 5015,o3 18 (.iaddr 1 (.t 16) (.t 17)) 5016,o3 19 (.load 1 .false (.t 18)) 5017,o3 20 (.mv (.t 4)) 5018,o3 21 (.mv (.t 5)) 5019,o3 22 (.iaddr 1 (.t 20) (.t 21)) 5020,o3 23 (.load 1 .false (.t 22)) 5021, .mk (.some 24) (.bld [(0,1),(1,1),(2,1)] [.string (ByteArray.mk (Array.mk [])), .int .i64 0, .int .i64 0] [(0, .t 19),(1, .t 23),(2, .k (.int .i64 7))])
 .none 5022 (.some []) .true [] .false, .mk (.some 25) (.bsl 51 3 1 [.string (ByteArray.mk (Array.mk [])), .int .i64 0, .int .i64 0] [(0, .t 24)]) .none 5023 (.some []) .true []
 .false, .mk (.some 26) (.app 51 3 32 (.t 15) (.t 25)) .none 5024 (.some [5023]) .true [] .false, .mk (.some 27) (.faddr 0 (.t 2)) .none 5025 (.some [5024,5023]) .true [] .false,
 .mk .none (.store 1 (.t 27) (.t 26)) .none 5026 (.some [5023,5024]) .true [] .false])) (.reg 5027 3 [o1 12 (.mv (.t 5)) 5027,o1 13 (.bin .add (.t 12) (.k (.int .i64 1))) 5028,o1 5 (.mv (.t 13)) 5029])))))) (.seq (.reg 5030 3 [o1 28 (.bslx 3 1 1 [.int .i64 0] [(0, .k (.int .i64 5))]) 5030,o1 29 (.faddr 1 (.t 2)) 5031,o2 (.store 1 (.t 29) (.t 28)) 5032]) (.seq (.reg 5033 9 [o1 30 (.load 2 .true (.t 2)) 5033,o1 31 (.bld [(0,1),(1,1),(2,1),(3,1)] [.int .i64 0, .int .i64 0, .int .i64 0, .slice .none 0 0] [(1, .k (.int .i64 3)),(2, .k (.int .i64 1))]) 5034, .mk (.some 32) (.bslx
 9 1 1 [.string (ByteArray.mk (Array.mk []))] [(0, .k (.string (ByteArray.mk (Array.mk [116,104,97,116]))))]) .none 5035 .none .false [] .false,o1 33 (.bld [(0,1),(1,1),(2,1),(3,1)] [.int .i64 0, .int .i64 0, .int .i64 0, .slice .none 0 0] [(1, .k (.int .i64 4)),(3, .t 32)]) 5036, .mk (.some 34) (.bslx 9 1
 1 [.string (ByteArray.mk (Array.mk []))] [(0, .k (.string (ByteArray.mk (Array.mk [77,101,109,98,101,114]))))]) .none 5037 .none .false [] .false,o1 35 (.bld [(0,1),(1,1),(2,1),(3,1)] [.int .i64 0, .int .i64 0, .int .i64 0, .slice .none 0 0] [(1, .k (.int .i64 1)),(2, .k (.int .i64 2)),(3, .t 34)]) 5038,o1 36 (.bslx 45 4 3 [.int .i64 0, .int .i64 0, .int .i64 0, .slice .none 0 0, .int .i64 0, .int .i64 0, .int .i64 0, .slice .none 0 0, .int .i64 0, .int .i64 0, .int .i64 0, .slice .none 0 0] [(0, .t 31),(1, .t 33),(2, .t 35)]) 5039,o2 (.store 2 (.t 0) (.t 30)) 5040,o1 1 (.mv (.t 36)) 5041]) .ret))))))
def rs41x:List IRes:=[.cell 0 2 .true, .tmp 1]
set_option maxRecDepth 100000 in
theorem comp41x:CompAt Try.prog 4 5000 ir41x rs41x 37:=⟨⟨_,_,5042,Try.func4,rfl,by kernel_rfl,by kernel_rfl,rfl⟩⟩

end Go.Proofs.Ytfppbjfbghaclaa

namespace Go.Proofs.Ytfppbjfbghaclaa
open Go.Pal
end Go.Proofs.Ytfppbjfbghaclaa

namespace Go.Proofs.Ytfppbjfbghaclaa
open Go.Pal
def ir15:IC :=
 .seq (.reg 0 1 [o1 0 (.mv (.k (.bool .false))) 0]) (.seq (.reg 1 7 [o1 15 (.call 4 []) 1,o1 14 (.mv (.t 15)) 2,o1 16 (.ext (.t 14) 0) 3,o1 17 (.ext (.t 14) 1) 4,o1 1 (.alloc 25 [.slice .none 0 0, .slice .none 0 0]) 5,o2 (.store 2 (.t 1) (.t 16)) 6,o1 2 (.mv (.t 17)) 7]) (.seq (.reg 8 12 [o1 19 (.load 2 .true (.t 1)) 8,o1 20 (.mv (.t 2)) 9,o1 21 (.call 8 [.t 19, .t 20]) 10,o1 18 (.mv (.t 21)) 11,o1 22 (.ext (.t 18) 0) 12,o1 23 (.ext (.t 18) 1) 13,o1 24 (.ext (.t 18) 2) 14,o1 25 (.ext (.t 18) 3) 15,o1 3 (.mv (.t 22)) 16,o1 4 (.mv (.t 23)) 17,o1 5 (.mv (.t 24)) 18,o1 6 (.mv (.t 25)) 19]) (.seq (.drawd 20 15 [1] [] [] [.some [1], .none, .none,
 .none, .some [2], .none, .none, .none, .none, .none, .none, .none, .none, .none, .none] [(0,o3 27 (.load 2 .true (.t 1)) 20),(1,o3 28 (.mv (.t 2)) 21),(2,o3 29 (.bld [(0,1),(1,1),(2,1),(3,1)] [.int .i64 0, .int .i64 0, .int .i64 0, .slice .none 0 0] [(0, .k (.int .i64 1))]) 22),(3, .mk (.some 30) (.bsl 45 4 1 [.int .i64 0, .int .i64 0, .int .i64 0, .slice .none 0 0] [(0, .t 29)]) .none 23
 (.some []) .true [2] .false),(4, .mk (.some 31) (.app 45 4 48 (.t 28) (.t 30)) .none 24 (.some [23]) .true [2,3,1] .true),(5, .mk (.some 32) (.callv (.f 8) [.t 27, .t 31])
 .none 25 (.some [23,24]) .false [1,3,2,4,0] .false),(6, .mk (.some 26) (.mv (.t 32)) .none 26 (.some [24,23,25]) .true [0,4,2,3,1,5] .false),(7, .mk (.some 33) (.ext
 (.t 26) 0) .none 27 (.some [25,23,24]) .true [5,1,3,2,4,0,6] .false),(8, .mk (.some 34) (.ext (.t 26) 1) .none 28 (.some [25,23,24]) .true [5,1,3,2,4,0,6]
 .false),(9, .mk (.some 35) (.ext (.t 26) 2) .none 29 (.some [25,23,24]) .true [5,1,3,2,4,0,6] .false),(10, .mk (.some 36) (.ext (.t 26) 3) .none 30 (.some [25,23,24])
 .true [5,1,3,2,4,0,6] .false),(11, .mk (.some 7) (.mv (.t 33)) .none 31 (.some [24,23,25]) .true [6,0,4,2,3,1,5,7] .false),(12, .mk (.some 8) (.mv (.t 34)) .none
 32 (.some [24,23,25]) .true [7,11,6,0,4,2,3,1,5,8] .false),(13, .mk (.some 9) (.mv (.t 35)) .none 33 (.some [24,23,25]) .true [8,11,7,12,6,0,4,2,3,1,5,9]
 .false),(14, .mk (.some 10) (.mv (.t 36)) .none 34 (.some [24,23,25]) .true [9,12,7,11,8,13,6,0,4,2,3,1,5,10] .false)]) (.seq (.reg 35 10 [o1 38 (.load 2 .true (.t 1)) 35,o1 39 (.mv (.t 2)) 36,o1 40 (.call 6 [.t 38, .t 39]) 37,o1 37 (.mv (.t 40)) 38,o1 41 (.ext (.t 37) 0) 39,o1 42 (.ext (.t 37) 1) 40,o1 43 (.ext (.t 37) 2) 41,o1 11 (.mv (.t 41)) 42,o1 12 (.mv (.t 42)) 43,o1 13 (.mv (.t 43)) 44]) (.seq (.reg 45 60 [o1 44 (.mv (.t 6)) 45,o1 45 (.bin .eql (.t 44) (.k (.int .i64 0))) 46,o1 46 (.mv (.t 45)) 47, .mk (.some 47) (.mv (.t 3)) (.some
 (46, .true)) 48 .none .false [] .false, .mk (.some 48) (.call 29 [.t 47]) (.some (46, .true)) 49 .none .false [] .false, .mk (.some 49) (.bsl 9 1 5 [.string (ByteArray.mk
 (Array.mk [])), .string (ByteArray.mk (Array.mk [])), .string (ByteArray.mk (Array.mk [])), .string (ByteArray.mk (Array.mk [])), .string (ByteArray.mk (Array.mk []))] [(0, .k
 (.string (ByteArray.mk (Array.mk [116,104,101])))),(1, .k (.string (ByteArray.mk (Array.mk [77,101,109,98,101,114])))),(2, .k (.string (ByteArray.mk (Array.mk [115,97,
 121,115])))),(3, .k (.string (ByteArray.mk (Array.mk [116,104,97,116])))),(4, .k (.string (ByteArray.mk (Array.mk [110,111]))))]) (.some (46, .true)) 50 .none .false []
 .false, .mk (.some 50) (.call 10 [.t 48, .t 49]) (.some (46, .true)) 51 .none .false [] .false,o1 51 (.pick (.t 46) (.t 50) (.k (.bool .false))) 52,o1 52 (.mv (.t 51)) 53, .mk (.some 53) (.mv (.t 4)) (.some (52, .true)) 54 .none .false [] .false, .mk (.some 54) (.bsl 3 1 3 [.int
 .i64 0, .int .i64 0, .int .i64 0] [(0, .k (.int .i64 1)),(1, .k (.int .i64 2)),(2, .k (.int .i64 3))]) (.some (52, .true)) 55 .none .false [] .false, .mk (.some 55) (.call 9
 [.t 53, .t 54]) (.some (52, .true)) 56 .none .false [] .false,o1 56 (.pick (.t 52) (.t 55) (.k (.bool .false))) 57,o1 57 (.mv (.t 56)) 58, .mk (.some 58) (.mv (.t 10)) (.some (57, .true)) 59 .none .false [] .false, .mk (.some 59) (.bin .eql (.t 58) (.k (.int .i64 0))) (.some (57,
 .true)) 60 .none .false [] .false,o1 60 (.pick (.t 57) (.t 59) (.k (.bool .false))) 61,o1 61 (.mv (.t 60)) 62, .mk (.some 62) (.mv (.t 7)) (.some (61, .true)) 63 .none .false [] .false, .mk (.some 63) (.call 29 [.t 62]) (.some (61, .true)) 64 .none .false [] .false, .mk (.some
 64) (.bsl 9 1 6 [.string (ByteArray.mk (Array.mk [])), .string (ByteArray.mk (Array.mk [])), .string (ByteArray.mk (Array.mk [])), .string (ByteArray.mk (Array.mk [])), .string
 (ByteArray.mk (Array.mk [])), .string (ByteArray.mk (Array.mk []))] [(0, .k (.string (ByteArray.mk (Array.mk [116,104,101])))),(1, .k (.string (ByteArray.mk (Array.mk [77,101,
 109,98,101,114])))),(2, .k (.string (ByteArray.mk (Array.mk [101,114])))),(3, .k (.string (ByteArray.mk (Array.mk [115,97,121,115])))),(4, .k (.string (ByteArray.mk
 (Array.mk [116,104,97,116])))),(5, .k (.string (ByteArray.mk (Array.mk [110,111]))))]) (.some (61, .true)) 65 .none .false [] .false, .mk (.some 65) (.call 10 [.t 63, .t 64])
 (.some (61, .true)) 66 .none .false [] .false,o1 66 (.pick (.t 61) (.t 65) (.k (.bool .false))) 67,o1 67 (.mv (.t 66)) 68, .mk (.some 68) (.mv (.t 13)) (.some (67, .true)) 69 .none .false [] .false, .mk (.some 69) (.bin .eql (.t 68) (.k (.int .i64 0))) (.some (67, .true)) 70
 .none .false [] .false,o1 70 (.pick (.t 67) (.t 69) (.k (.bool .false))) 71,o1 71 (.mv (.t 70)) 72,
 .mk (.some 72) (.mv (.t 11)) (.some (71, .true)) 73 .none .false [] .false, .mk (.some 73) (.len (.t 72)) (.some (71, .true)) 74 .none .false [] .false, .mk (.some 74) (.bin .eql
 (.t 73) (.k (.int .i64 5))) (.some (71, .true)) 75 .none .false [] .false,o1 75 (.pick (.t 71) (.t 74) (.k (.bool .false))) 76,o1 76 (.mv (.t 75)) 77, .mk (.some 77) (.mv (.t 11)) (.some (76, .true)) 78 .none .false [] .false, .mk (.some 78) (.iaddr 4 (.t 77) (.k (.int .i64 1)))
 (.some (76, .true)) 79 .none .false [] .false, .mk (.some 79) (.faddr 0 (.t 78)) (.some (76, .true)) 80 .none .false [] .false, .mk (.some 80) (.load 1 .false (.t 79)) (.some (76,
 .true)) 81 .none .false [] .false, .mk (.some 81) (.bsl 3 1 2 [.int .i64 0, .int .i64 0] [(0, .k (.int .i64 1)),(1, .k (.int .i64 2))]) (.some (76, .true)) 82 .none .false []
 .false, .mk (.some 82) (.call 9 [.t 80, .t 81]) (.some (76, .true)) 83 .none .false [] .false,o1 83 (.pick (.t 76) (.t 82) (.k (.bool .false))) 84,o1 84 (.mv (.t 83)) 85, .mk (.some 85) (.mv (.t 11)) (.some (84, .true)) 86 .none .false [] .false, .mk (.some 86) (.iaddr 4 (.t 85)
 (.k (.int .i64 1))) (.some (84, .true)) 87 .none .false [] .false, .mk (.some 87) (.faddr 1 (.t 86)) (.some (84, .true)) 88 .none .false [] .false, .mk (.some 88) (.load 1 .false
 (.t 87)) (.some (84, .true)) 89 .none .false [] .false, .mk (.some 89) (.bin .eql (.t 88) (.k (.int .i64 1))) (.some (84, .true)) 90 .none .false [] .false,o1 90 (.pick (.t 84) (.t 89) (.k (.bool .false))) 91,o1 91 (.mv (.t 90)) 92, .mk (.some 92) (.mv (.t 11)) (.some (91,
 .true)) 93 .none .false [] .false, .mk (.some 93) (.iaddr 4 (.t 92) (.k (.int .i64 1))) (.some (91, .true)) 94 .none .false [] .false, .mk (.some 94) (.faddr 2 (.t 93)) (.some
 (91, .true)) 95 .none .false [] .false, .mk (.some 95) (.load 1 .false (.t 94)) (.some (91, .true)) 96 .none .false [] .false, .mk (.some 96) (.bin .eql (.t 95) (.k (.int .i64
 2))) (.some (91, .true)) 97 .none .false [] .false,o1 97 (.pick (.t 91) (.t 96) (.k (.bool .false))) 98,o1 98 (.mv (.t 97)) 99, .mk (.some 99) (.mv (.t 12)) (.some (98, .true)) 100 .none .false [] .false, .mk (.some 100) (.bsl 3 1 1 [.int .i64 0] [(0, .k (.int .i64 3))]) (.some
 (98, .true)) 101 .none .false [] .false, .mk (.some 101) (.call 9 [.t 99, .t 100]) (.some (98, .true)) 102 .none .false [] .false,o1 102 (.pick (.t 98) (.t 101) (.k (.bool .false))) 103,o1 0 (.mv (.t 102)) 104]) .ret)))))
def rs15:List IRes:=[.tmp 0]
set_option maxRecDepth 100000 in
theorem comp15:Comp Try.prog 12 ir15 rs15 103:=⟨⟨_,_,105,Try.func12,rfl,by kernel_rfl,by kernel_rfl,rfl⟩⟩
theorem body15:HasBody Try.prog 12:=hasBody_of (by kernel_rfl)
def ir23:IC :=
 .seq (.reg 0 1 [o1 4 (.mv (.k (.bool .false))) 0]) (.seq (.seq (.reg 1 5 [o1 6 (.mv (.t 0)) 1,o1 7 (.len (.t 6)) 2,o1 8 (.mv (.t 1)) 3,o1 9 (.len (.t 8)) 4,o1 10 (.bin .neq (.t 7) (.t 9)) 5]) (.cond (.t 10) (.seq (.reg 6 1 [o1 4 (.mv (.k (.bool .false))) 6]) .ret)
 .skip)) (.seq (.seq (.reg 7 1 [o1 5 (.mv (.k (.int .i64 0))) 7]) (.block 0 (.loop (.seq (.seq (.reg 8 4 [o1 11 (.mv (.t 5)) 8,o1 12 (.mv (.t 0)) 9,o1 13 (.len (.t 12)) 10,o1 14 (.bin .lss (.t 11) (.t 13)) 11]) (.cond (.t 14) .skip (.exit 0))) (.seq (.block 1 (.seq (.draw 12 9 [] [] [o3 17 (.mv (.t 0)) 12,o3 18 (.mv (.t 5)) 13,o3 19 (.iaddr 1 (.t 17) (.t 18)) 14,o3 20 (.load 1 .false (.t 19)) 15,o3 21 (.mv (.t 1)) 16,o3 22 (.mv (.t 5)) 17,o3 23 (.iaddr 1 (.t 21) (.t 22)) 18,o3 24 (.load 1 .false (.t 23)) 19,o3 25 (.bin .neq (.t 20) (.t 24)) 20]) (.cond (.t 25) (.seq (.reg 21 1 [o1 4 (.mv (.k (.bool .false))) 21]) .ret)
 .skip))) (.reg 22 3 [o1 15 (.mv (.t 5)) 22,o1 16 (.bin .add (.t 15) (.k (.int .i64 1))) 23,o1 5 (.mv (.t 16)) 24])))))) (.seq (.reg 25 1 [o1 4 (.mv (.k (.bool .true))) 25]) .ret)))
def rs23:List IRes:=[.tmp 4]
set_option maxRecDepth 100000 in
theorem comp23:Comp Try.prog 9 ir23 rs23 26:=⟨⟨_,_,26,Try.func9,rfl,by kernel_rfl,by kernel_rfl,rfl⟩⟩
theorem body23:HasBody Try.prog 9:=hasBody_of (by kernel_rfl)
def ir29:IC :=
 .seq (.reg 0 1 [o1 4 (.mv (.k (.bool .false))) 0]) (.seq (.seq (.reg 1 5 [o1 6 (.mv (.t 0)) 1,o1 7 (.len (.t 6)) 2,o1 8 (.mv (.t 1)) 3,o1 9 (.len (.t 8)) 4,o1 10 (.bin .neq (.t 7) (.t 9)) 5]) (.cond (.t 10) (.seq (.reg 6 1 [o1 4 (.mv (.k (.bool .false))) 6]) .ret)
 .skip)) (.seq (.seq (.reg 7 1 [o1 5 (.mv (.k (.int .i64 0))) 7]) (.block 0 (.loop (.seq (.seq (.reg 8 4 [o1 11 (.mv (.t 5)) 8,o1 12 (.mv (.t 0)) 9,o1 13 (.len (.t 12)) 10,o1 14 (.bin .lss (.t 11) (.t 13)) 11]) (.cond (.t 14) .skip (.exit 0))) (.seq (.block 1 (.seq (.draw 12 9 [] [] [o3 17 (.mv (.t 0)) 12,o3 18 (.mv (.t 5)) 13,o3 19 (.iaddr 1 (.t 17) (.t 18)) 14,o3 20 (.load 1 .false (.t 19)) 15,o3 21 (.mv (.t 1)) 16,o3 22 (.mv (.t 5)) 17,o3 23 (.iaddr 1 (.t 21) (.t 22)) 18,o3 24 (.load 1 .false (.t 23)) 19,o3 25 (.pur (.bin .neq 9) [.t 20, .t 24]) 20]) (.cond (.t 25) (.seq (.reg 21 1 [o1 4 (.mv (.k (.bool .false))) 21]) .ret) .skip))) (.reg 22 3 [o1 15 (.mv (.t 5)) 22,o1 16 (.bin .add (.t 15) (.k (.int .i64 1))) 23,o1 5 (.mv (.t 16)) 24])))))) (.seq (.reg 25 1 [o1 4 (.mv (.k (.bool .true))) 25]) .ret)))
def rs29:List IRes:=[.tmp 4]
set_option maxRecDepth 100000 in
theorem comp29:Comp Try.prog 10 ir29 rs29 26:=⟨⟨_,_,26,Try.func10,rfl,by kernel_rfl,by kernel_rfl,rfl⟩⟩
theorem body29:HasBody Try.prog 10:=hasBody_of (by kernel_rfl)
def ir30:IC :=
 .seq (.reg 0 1 [o1 2 (.mv (.k (.slice .none 0 0))) 0]) (.seq (.reg 1 1 [o1 3 (.mv (.k (.slice .none 0 0))) 1]) (.seq (.seq (.reg 2 1 [o1 4 (.mv (.k (.int .i64 0))) 2]) (.block 0 (.loop (.seq (.seq (.reg 3 4 [o1 5 (.mv (.t 4)) 3,o1 6 (.mv (.t 0)) 4,o1 7 (.len (.t 6)) 5,o1 8 (.bin .lss (.t 5) (.t 7)) 6]) (.cond (.t 8) .skip (.exit 0))) (.seq (.block 1 (.reg 7 9 [o1 11 (.mv (.t 3)) 7,o1 12 (.mv (.t 0)) 8,o1 13 (.mv (.t 4)) 9,o1 14 (.iaddr 3 (.t 12) (.t 13)) 10,o1 15 (.faddr 0 (.t 14)) 11,o1 16 (.load 1 .false (.t 15)) 12, .mk (.some 17) (.bsl 9 1 1 [.string
 (ByteArray.mk (Array.mk []))] [(0, .t 16)]) .none 13 .none .false [] .false,o1 18 (.app 9 1 16 (.t 11) (.t 17)) 14,o1 3 (.mv (.t 18)) 15])) (.reg 16 3 [o1 9 (.mv (.t 4)) 16,o1 10 (.bin .add (.t 9) (.k (.int .i64 1))) 17,o1 4 (.mv (.t 10)) 18])))))) (.seq (.reg 19 2 [o1 19 (.mv (.t 3)) 19,o1 2 (.mv (.t 19)) 20]) .ret)))
def rs30:List IRes:=[.tmp 2]
set_option maxRecDepth 100000 in
theorem comp30:Comp Try.prog 29 ir30 rs30 20:=⟨⟨_,_,21,Try.func29,rfl,by kernel_rfl,by kernel_rfl,rfl⟩⟩
theorem body30:HasBody Try.prog 29:=hasBody_of (by kernel_rfl)
def ir31:IC :=
 .seq (.reg 0 2 [o1 1 (.box 25 (.t 0)) 0,o1 2 (.mv (.k (.int .i64 0))) 1]) (.seq (.seq (.reg 2 3 [o1 3 (.load 2 .true (.t 1)) 2,o1 4 (.call 22 [.t 3]) 3,o1 5 (.un .not (.t 4)) 4]) (.cond (.t 5) (.seq (.reg 5 1 [o1 2 (.mv (.k (.int .i64 1))) 5]) .ret) .skip)) (.seq (.reg 6 1 [o1 2 (.mv (.k (.int .i64 0))) 6]) .ret))
def rs31:List IRes:=[.tmp 2]
set_option maxRecDepth 100000 in
theorem comp31:Comp Try.prog 11 ir31 rs31 6:=⟨⟨_,_,7,Try.func11,rfl,by kernel_rfl,by kernel_rfl,rfl⟩⟩
theorem body31:HasBody Try.prog 11:=hasBody_of (by kernel_rfl)
theorem body41:HasBody Try.prog 4:=hasBody_of (by kernel_rfl)
end Go.Proofs.Ytfppbjfbghaclaa

namespace Go.Proofs.Ytfppbjfbghaclaa
open Go.Pal
def irN3:IC :=
 .seq (.reg 3000 1 [o1 0 (.mv (.k (.bool .false))) 3000]) (.seq (.reg 3001 7 [o1 35 (.call 4 []) 3001,o1 34 (.mv (.t 35)) 3002,o1 36 (.ext (.t 34) 0) 3003,o1 37 (.ext (.t 34) 1) 3004,o1 1 (.alloc 25 [.slice .none 0 0, .slice .none 0 0]) 3005,o2 (.store 2 (.t 1) (.t 36)) 3006,o1 2 (.mv (.t 37)) 3007]) (.seq (.reg 3008 8 [o1 39 (.load 2 .true (.t 1)) 3008,o1 40 (.mv (.t 2)) 3009,o1 41 (.call 5 [.t 39, .t 40]) 3010,o1 38 (.mv (.t 41)) 3011,o1 42 (.ext (.t 38) 0) 3012,o1 43 (.ext (.t 38) 1) 3013,o1 3 (.mv (.t 42)) 3014,o1 4 (.mv (.t 43)) 3015]) (.seq (.reg 3016 10 [o1 45 (.load 2 .true (.t 1)) 3016,o1 46 (.mv (.t 2)) 3017,o1 47 (.call 6 [.t 45, .t 46]) 3018,o1 44 (.mv (.t 47)) 3019,o1 48 (.ext (.t 44) 0) 3020,o1 49 (.ext (.t 44) 1) 3021,o1 50 (.ext (.t 44) 2) 3022,o1 5 (.mv (.t 48)) 3023,o1 6 (.mv (.t 49)) 3024,o1 7 (.mv (.t 50)) 3025]) (.seq (.reg 3026 13 [o1 52 (.load 2 .true (.t 1)) 3026, .mk (.some
 53) (.bslx 9 1 1 [.string (ByteArray.mk (Array.mk []))] [(0, .k (.string (ByteArray.mk (Array.mk [101,114]))))]) .none 3027 .none .false [] .false,o1 54 (.bld [(0,1),(1,1)] [.slice .none 0 0, .slice .none 0 0] [(0, .t 53)]) 3028, .mk (.some 55) (.bslx 9 1 2 [.string (ByteArray.mk (Array.mk [])), .string
 (ByteArray.mk (Array.mk []))] [(0, .k (.string (ByteArray.mk (Array.mk [104,111,110,111,117,114,97,98,108,101])))),(1, .k (.string (ByteArray.mk (Array.mk [109,101,
 109,98,101,114]))))]) .none 3029 .none .false [] .false, .mk (.some 56) (.bslx 9 1 1 [.string (ByteArray.mk (Array.mk []))] [(0, .k (.string (ByteArray.mk (Array.mk [77,101,
 109,98,101,114]))))]) .none 3030 .none .false [] .false,o1 57 (.bld [(0,1),(1,1)] [.slice .none 0 0, .slice .none 0 0] [(0, .t 55),(1, .t 56)]) 3031,o1 58 (.bslx 39 2 2 [.slice .none 0 0, .slice .none 0 0, .slice .none 0 0, .slice .none 0 0] [(0, .t 54),(1, .t 57)]) 3032,o1 59 (.call 7 [.t 52, .t 58]) 3033,o1 51 (.mv (.t 59)) 3034,o1 60 (.ext (.t 51) 0) 3035,o1 61 (.ext (.t 51) 1) 3036,o1 8 (.mv (.t 60)) 3037,o1 9 (.mv (.t 61)) 3038]) (.seq (.reg 3039 13 [o1 63 (.load 2 .true (.t 1)) 3039,o1 64 (.bld [(0,1),(1,1),(2,1),(3,1)] [.int .i64 0, .int .i64 0, .int .i64 0, .slice .none 0 0] [(1, .k (.int .i64 5)),(2, .k (.int .i64 1))]) 3040,o1 65 (.bslx 45 4 1 [.int .i64 0, .int .i64 0, .int .i64 0, .slice .none 0 0] [(0, .t 64)]) 3041,o1 66 (.call 8 [.t 63, .t 65]) 3042,o1 62 (.mv (.t 66)) 3043,o1 67 (.ext (.t 62) 0) 3044,o1 68 (.ext (.t 62) 1) 3045,o1 69 (.ext (.t 62) 2) 3046,o1 70 (.ext (.t 62) 3) 3047,o1 10 (.mv (.t 67)) 3048,o1 11 (.mv (.t 68)) 3049,o1 12 (.mv (.t 69)) 3050,o1 13 (.mv (.t 70)) 3051]) (.seq (.seq (.reg 3052 93 [o1 71 (.mv (.t 4)) 3052,o1 72 (.bin .neq (.t 71) (.k (.int .i64 0))) 3053,o1 73 (.mv (.t 72)) 3054, .mk (.some 74) (.mv (.t 3)) (.some (73,
 .false)) 3055 .none .false [] .false, .mk (.some 75) (.bslx 3 1 3 [.int .i64 0, .int .i64 0, .int .i64 0] [(0, .k (.int .i64 1)),(1, .k (.int .i64 2)),(2, .k (.int .i64 3))])
 (.some (73, .false)) 3056 .none .false [] .false, .mk (.some 76) (.call 9 [.t 74, .t 75]) (.some (73, .false)) 3057 .none .false [] .false, .mk (.some 77) (.un .not (.t 76))
 (.some (73, .false)) 3058 .none .false [] .false,o1 78 (.pick (.t 73) (.k (.bool .true)) (.t 77)) 3059,o1 79 (.mv (.t 78)) 3060, .mk (.some 80) (.mv (.t 7)) (.some (79, .false)) 3061 .none .false [] .false, .mk (.some 81) (.bin .neq (.t 80) (.k (.int .i64 0))) (.some (79,
 .false)) 3062 .none .false [] .false,o1 82 (.pick (.t 79) (.k (.bool .true)) (.t 81)) 3063,o1 83 (.mv (.t 82)) 3064, .mk (.some 84) (.mv (.t 5)) (.some (83, .false)) 3065 .none .false [] .false, .mk (.some 85) (.len (.t 84)) (.some (83, .false)) 3066 .none .false [] .false, .mk
 (.some 86) (.bin .neq (.t 85) (.k (.int .i64 5))) (.some (83, .false)) 3067 .none .false [] .false,o1 87 (.pick (.t 83) (.k (.bool .true)) (.t 86)) 3068,o1 88 (.mv (.t 87)) 3069, .mk (.some 89) (.mv (.t 5)) (.some (88, .false)) 3070 .none .false [] .false, .mk (.some 90)
 (.iaddr 4 (.t 89) (.k (.int .i64 3))) (.some (88, .false)) 3071 .none .false [] .false, .mk (.some 91) (.faddr 0 (.t 90)) (.some (88, .false)) 3072 .none .false [] .false, .mk
 (.some 92) (.load 1 .false (.t 91)) (.some (88, .false)) 3073 .none .false [] .false, .mk (.some 93) (.len (.t 92)) (.some (88, .false)) 3074 .none .false [] .false, .mk (.some
 94) (.bin .neq (.t 93) (.k (.int .i64 0))) (.some (88, .false)) 3075 .none .false [] .false,o1 95 (.pick (.t 88) (.k (.bool .true)) (.t 94)) 3076,o1 96 (.mv (.t 95)) 3077, .mk (.some 97) (.mv (.t 5)) (.some (96, .false)) 3078 .none .false [] .false, .mk (.some 98) (.iaddr 4 (.t
 97) (.k (.int .i64 3))) (.some (96, .false)) 3079 .none .false [] .false, .mk (.some 99) (.faddr 1 (.t 98)) (.some (96, .false)) 3080 .none .false [] .false, .mk (.some 100)
 (.load 1 .false (.t 99)) (.some (96, .false)) 3081 .none .false [] .false, .mk (.some 101) (.bin .neq (.t 100) (.k (.int .i64 (-1)))) (.some (96, .false)) 3082 .none .false []
 .false,o1 102 (.pick (.t 96) (.k (.bool .true)) (.t 101)) 3083,o1 103 (.mv (.t 102)) 3084, .mk (.some
 104) (.mv (.t 5)) (.some (103, .false)) 3085 .none .false [] .false, .mk (.some 105) (.iaddr 4 (.t 104) (.k (.int .i64 3))) (.some (103, .false)) 3086 .none .false [] .false, .mk
 (.some 106) (.faddr 2 (.t 105)) (.some (103, .false)) 3087 .none .false [] .false, .mk (.some 107) (.load 1 .false (.t 106)) (.some (103, .false)) 3088 .none .false [] .false, .mk
 (.some 108) (.bin .neq (.t 107) (.k (.int .i64 (-1)))) (.some (103, .false)) 3089 .none .false [] .false,o1 109 (.pick (.t 103) (.k (.bool .true)) (.t 108)) 3090,o1 110 (.mv (.t 109)) 3091, .mk (.some 111) (.mv (.t 9)) (.some (110, .false)) 3092 .none .false [] .false, .mk
 (.some 112) (.bin .neq (.t 111) (.k (.int .i64 0))) (.some (110, .false)) 3093 .none .false [] .false,o1 113 (.pick (.t 110) (.k (.bool .true)) (.t 112)) 3094,o1 114 (.mv (.t 113)) 3095, .mk (.some 115) (.mv (.t 8)) (.some (114, .false)) 3096 .none .false [] .false, .mk
 (.some 116) (.len (.t 115)) (.some (114, .false)) 3097 .none .false [] .false, .mk (.some 117) (.bin .neq (.t 116) (.k (.int .i64 2))) (.some (114, .false)) 3098 .none .false []
 .false,o1 118 (.pick (.t 114) (.k (.bool .true)) (.t 117)) 3099,o1 119 (.mv (.t 118)) 3100, .mk
 (.some 120) (.mv (.t 8)) (.some (119, .false)) 3101 .none .false [] .false, .mk (.some 121) (.iaddr 4 (.t 120) (.k (.int .i64 0))) (.some (119, .false)) 3102 .none .false []
 .false, .mk (.some 122) (.faddr 1 (.t 121)) (.some (119, .false)) 3103 .none .false [] .false, .mk (.some 123) (.load 1 .false (.t 122)) (.some (119, .false)) 3104 .none .false []
 .false, .mk (.some 124) (.bin .neq (.t 123) (.k (.int .i64 3))) (.some (119, .false)) 3105 .none .false [] .false,o1 125 (.pick (.t 119) (.k (.bool .true)) (.t 124)) 3106,o1 126 (.mv (.t 125)) 3107, .mk (.some 127) (.mv (.t 8)) (.some (126, .false)) 3108 .none .false []
 .false, .mk (.some 128) (.iaddr 4 (.t 127) (.k (.int .i64 0))) (.some (126, .false)) 3109 .none .false [] .false, .mk (.some 129) (.faddr 2 (.t 128)) (.some (126, .false)) 3110
 .none .false [] .false, .mk (.some 130) (.load 1 .false (.t 129)) (.some (126, .false)) 3111 .none .false [] .false, .mk (.some 131) (.bin .neq (.t 130) (.k (.int .i64 1))) (.some
 (126, .false)) 3112 .none .false [] .false,o1 132 (.pick (.t 126) (.k (.bool .true)) (.t 131)) 3113,o1 133 (.mv (.t 132)) 3114, .mk (.some 134) (.mv (.t 8)) (.some (133, .false)) 3115 .none .false [] .false, .mk (.some 135) (.iaddr 4 (.t 134) (.k (.int .i64 1))) (.some (133,
 .false)) 3116 .none .false [] .false, .mk (.some 136) (.faddr 1 (.t 135)) (.some (133, .false)) 3117 .none .false [] .false, .mk (.some 137) (.load 1 .false (.t 136)) (.some (133,
 .false)) 3118 .none .false [] .false, .mk (.some 138) (.bin .neq (.t 137) (.k (.int .i64 1))) (.some (133, .false)) 3119 .none .false [] .false,o1 139 (.pick (.t 133) (.k (.bool .true)) (.t 138)) 3120,o1 140 (.mv (.t 139)) 3121, .mk (.some 141) (.mv (.t 8)) (.some (140,
 .false)) 3122 .none .false [] .false, .mk (.some 142) (.iaddr 4 (.t 141) (.k (.int .i64 1))) (.some (140, .false)) 3123 .none .false [] .false, .mk (.some 143) (.faddr 2 (.t 142))
 (.some (140, .false)) 3124 .none .false [] .false, .mk (.some 144) (.load 1 .false (.t 143)) (.some (140, .false)) 3125 .none .false [] .false, .mk (.some 145) (.bin .neq (.t 144)
 (.k (.int .i64 2))) (.some (140, .false)) 3126 .none .false [] .false,o1 146 (.pick (.t 140) (.k (.bool .true)) (.t 145)) 3127,o1 147 (.mv (.t 146)) 3128, .mk (.some 148) (.mv (.t 8)) (.some (147, .false)) 3129 .none .false [] .false, .mk (.some 149) (.iaddr 4 (.t 148) (.k (.int
 .i64 1))) (.some (147, .false)) 3130 .none .false [] .false, .mk (.some 150) (.faddr 3 (.t 149)) (.some (147, .false)) 3131 .none .false [] .false, .mk (.some 151) (.load 1 .false
 (.t 150)) (.some (147, .false)) 3132 .none .false [] .false, .mk (.some 152) (.bslx 9 1 1 [.string (ByteArray.mk (Array.mk []))] [(0, .k (.string (ByteArray.mk (Array.mk [77,101,
 109,98,101,114]))))]) (.some (147, .false)) 3133 .none .false [] .false, .mk (.some 153) (.call 10 [.t 151, .t 152]) (.some (147, .false)) 3134 .none .false [] .false, .mk
 (.some 154) (.un .not (.t 153)) (.some (147, .false)) 3135 .none .false [] .false,o1 155 (.pick (.t 147) (.k (.bool .true)) (.t 154)) 3136,
 o1 156 (.mv (.t 155)) 3137, .mk (.some 157) (.mv (.t 13)) (.some (156, .false)) 3138 .none .false [] .false, .mk (.some 158) (.bin .neq (.t
 157) (.k (.int .i64 9))) (.some (156, .false)) 3139 .none .false [] .false,o1 159 (.pick (.t 156) (.k (.bool .true)) (.t 158)) 3140,o1 160 (.mv (.t 159)) 3141, .mk (.some 161) (.mv (.t 12)) (.some (160, .false)) 3142 .none .false [] .false, .mk (.some 162) (.bin .neq (.t 161)
 (.k (.int .i64 0))) (.some (160, .false)) 3143 .none .false [] .false,o1 163 (.pick (.t 160) (.k (.bool .true)) (.t 162)) 3144]) (.cond (.t
 163) (.seq (.reg 3145 1 [o1 0 (.mv (.k (.bool .false))) 3145]) .ret) .skip)) (.seq (.drawd 3146 17 [1] [] [] [.some [1], .none, .none, .none,
 .none, .none, .some [2], .none, .none, .none, .none, .none, .none, .none, .none, .none, .none] [(0,o3 165 (.load 2 .true (.t 1)) 3146),
 (1,o3 166 (.mv (.t 2)) 3147),(2, .mk (.some 167) (.bslp 9 1 1 [.string (ByteArray.mk (Array.mk []))] [(0, .k (.string (ByteArray.mk
 (Array.mk [77,69,77,66,69,82]))))]) .none 3148 (.some []) .true [] .false),(3, .mk (.some 168) (.bld [(0,1),(1,1),(2,1),(3,1)] [.int .i64 0, .int .i64 0, .int .i64 0,
 .slice .none 0 0] [(1, .k (.int .i64 1)),(2, .k (.int .i64 1)),(3, .t 167)]) .none 3149 (.some [3148]) .true [2] .false),(4,o3 169 (.bld [(0,1),(1,1),(2,1),(3,1)] [.int .i64 0, .int .i64 0, .int .i64 0, .slice .none 0 0] [(0, .k (.int .i64 3))]) 3150),(5, .mk (.some 170) (.bsl 45 4 2 [.int .i64 0, .int
 .i64 0, .int .i64 0, .slice .none 0 0, .int .i64 0, .int .i64 0, .int .i64 0, .slice .none 0 0] [(0, .t 168),(1, .t 169)]) .none 3151 (.some [3148]) .true [4,2,3] .false),(6,
 .mk (.some 171) (.app 45 4 48 (.t 166) (.t 170)) .none 3152 (.some [3148,3151]) .false [3,2,4,5,1] .true),(7, .mk (.some 172) (.callv (.f 8) [.t 165, .t 171]) .none 3153
 (.some [3151,3148,3152]) .false [1,5,4,2,3,6,0] .false),(8, .mk (.some 164) (.mv (.t 172)) .none 3154 (.some [3152,3148,3151,3153]) .true [0,6,3,2,4,5,1,7]
 .false),(9, .mk (.some 173) (.ext (.t 164) 0) .none 3155 (.some [3153,3151,3148,3152]) .true [7,1,5,4,2,3,6,0,8] .false),(10, .mk (.some 174) (.ext (.t 164) 1) .none
 3156 (.some [3153,3151,3148,3152]) .true [7,1,5,4,2,3,6,0,8] .false),(11, .mk (.some 175) (.ext (.t 164) 2) .none 3157 (.some [3153,3151,3148,3152]) .true [7,1,5,
 4,2,3,6,0,8] .false),(12, .mk (.some 176) (.ext (.t 164) 3) .none 3158 (.some [3153,3151,3148,3152]) .true [7,1,5,4,2,3,6,0,8] .false),(13, .mk (.some 14) (.mv
 (.t 173)) .none 3159 (.some [3152,3148,3151,3153]) .true [8,0,6,3,2,4,5,1,7,9] .false),(14, .mk (.some 15) (.mv (.t 174)) .none 3160 (.some [3152,3148,3151,3153])
 .true [9,13,8,0,6,3,2,4,5,1,7,10] .false),(15, .mk (.some 16) (.mv (.t 175)) .none 3161 (.some [3152,3148,3151,3153]) .true [10,13,9,14,8,0,6,3,2,4,5,1,
 7,11] .false),(16, .mk (.some 17) (.mv (.t 176)) .none 3162 (.some [3152,3148,3151,3153]) .true [11,14,9,13,10,15,8,0,6,3,2,4,5,1,7,12] .false)]) (.seq (.drawd
 3163 15 [1] [] [] [.some [1], .none, .none, .none, .some [2], .none, .none, .none, .none, .none, .none, .none, .none, .none, .none] [(0,o3 178 (.load 2 .true (.t 1)) 3163),(1,o3 179 (.mv (.t 2)) 3164),(2,o3 180 (.bld [(0,1),(1,1),(2,1),(3,1)] [.int .i64 0, .int .i64 0, .int .i64 0, .slice .none 0 0] []) 3165),(3, .mk (.some 181) (.bsl 45 4 1 [.int .i64 0, .int .i64 0, .int .i64 0, .slice
 .none 0 0] [(0, .t 180)]) .none 3166 (.some []) .true [2] .false),(4, .mk (.some 182) (.app 45 4 48 (.t 179) (.t 181)) .none 3167 (.some [3166]) .true [2,3,1] .true),(5, .mk
 (.some 183) (.callv (.f 8) [.t 178, .t 182]) .none 3168 (.some [3166,3167]) .false [1,3,2,4,0] .false),(6, .mk (.some 177) (.mv (.t 183)) .none 3169 (.some [3167,3166,
 3168]) .true [0,4,2,3,1,5] .false),(7, .mk (.some 184) (.ext (.t 177) 0) .none 3170 (.some [3168,3166,3167]) .true [5,1,3,2,4,0,6] .false),(8, .mk (.some 185) (.ext
 (.t 177) 1) .none 3171 (.some [3168,3166,3167]) .true [5,1,3,2,4,0,6] .false),(9, .mk (.some 186) (.ext (.t 177) 2) .none 3172 (.some [3168,3166,3167]) .true [5,1,3,
 2,4,0,6] .false),(10, .mk (.some 187) (.ext (.t 177) 3) .none 3173 (.some [3168,3166,3167]) .true [5,1,3,2,4,0,6] .false),(11, .mk (.some 18) (.mv (.t 184)) .none
 3174 (.some [3167,3166,3168]) .true [6,0,4,2,3,1,5,7] .false),(12, .mk (.some 19) (.mv (.t 185)) .none 3175 (.some [3167,3166,3168]) .true [7,11,6,0,4,2,3,1,5,
 8] .false),(13, .mk (.some 20) (.mv (.t 186)) .none 3176 (.some [3167,3166,3168]) .true [8,11,7,12,6,0,4,2,3,1,5,9] .false),(14, .mk (.some 21) (.mv (.t 187)) .none
 3177 (.some [3167,3166,3168]) .true [9,12,7,11,8,13,6,0,4,2,3,1,5,10] .false)]) (.seq (.drawd 3178 15 [1] [] [] [.some [1], .none, .none, .none, .some [2], .none,
 .none, .none, .none, .none, .none, .none, .none, .none, .none] [(0,o3 189 (.load 2 .true (.t 1)) 3178),(1,o3 190 (.mv (.t 2)) 3179),(2,o3 191 (.bld [(0,1),(1,1),(2,1),(3,1)] [.int .i64 0, .int .i64 0, .int .i64 0, .slice .none 0 0] [(0, .k (.int .i64 4))]) 3180),(3, .mk (.some 192) (.bsl 45 4 1 [.int .i64 0, .int .i64 0, .int .i64 0, .slice .none 0 0] [(0, .t 191)]) .none 3181 (.some []) .true
 [2] .false),(4, .mk (.some 193) (.app 45 4 48 (.t 190) (.t 192)) .none 3182 (.some [3181]) .true [2,3,1] .true),(5, .mk (.some 194) (.callv (.f 8) [.t 189, .t 193]) .none 3183
 (.some [3181,3182]) .false [1,3,2,4,0] .false),(6, .mk (.some 188) (.mv (.t 194)) .none 3184 (.some [3182,3181,3183]) .true [0,4,2,3,1,5] .false),(7, .mk (.some 195)
 (.ext (.t 188) 0) .none 3185 (.some [3183,3181,3182]) .true [5,1,3,2,4,0,6] .false),(8, .mk (.some 196) (.ext (.t 188) 1) .none 3186 (.some [3183,3181,3182]) .true [5,
 1,3,2,4,0,6] .false),(9, .mk (.some 197) (.ext (.t 188) 2) .none 3187 (.some [3183,3181,3182]) .true [5,1,3,2,4,0,6] .false),(10, .mk (.some 198) (.ext (.t 188) 3)
 .none 3188 (.some [3183,3181,3182]) .true [5,1,3,2,4,0,6] .false),(11, .mk (.some 22) (.mv (.t 195)) .none 3189 (.some [3182,3181,3183]) .true [6,0,4,2,3,1,5,7]
 .false),(12, .mk (.some 23) (.mv (.t 196)) .none 3190 (.some [3182,3181,3183]) .true [7,11,6,0,4,2,3,1,5,8] .false),(13, .mk (.some 24) (.mv (.t 197)) .none 3191
 (.some [3182,3181,3183]) .true [8,11,7,12,6,0,4,2,3,1,5,9] .false),(14, .mk (.some 25) (.mv (.t 198)) .none 3192 (.some [3182,3181,3183]) .true [9,12,7,11,8,
 13,6,0,4,2,3,1,5,10] .false)]) (.seq (.draw 3193 12 [1] [] [o3 200 (.load 2 .true (.t 1)) 3193,o3 201 (.mksp 45 4 48 [.int .i64 0, .int .i64 0, .int .i64 0, .slice .none 0 0] (.k (.int .i64 81))) 3194, .mk (.some 202) (.call 8 [.t 200, .t 201]) .none 3195 (.some
 [3194]) .false [] .false, .mk (.some 199) (.mv (.t 202)) .none 3196 (.some [3194,3195]) .true [] .false, .mk (.some 203) (.ext (.t 199) 0) .none 3197 (.some [3195,3194]) .true
 [] .false, .mk (.some 204) (.ext (.t 199) 1) .none 3198 (.some [3195,3194]) .true [] .false, .mk (.some 205) (.ext (.t 199) 2) .none 3199 (.some [3195,3194]) .true [] .false,
 .mk (.some 206) (.ext (.t 199) 3) .none 3200 (.some [3195,3194]) .true [] .false, .mk (.some 26) (.mv (.t 203)) .none 3201 (.some [3194,3195]) .true [] .false, .mk (.some 27)
 (.mv (.t 204)) .none 3202 (.some [3194,3195]) .true [] .false, .mk (.some 28) (.mv (.t 205)) .none 3203 (.some [3194,3195]) .true [] .false, .mk (.some 29) (.mv (.t 206)) .none
 3204 (.some [3194,3195]) .true [] .false]) (.seq (.reg 3205 9 [o1 208 (.load 2 .true (.t 1)) 3205,o1 209 (.bld [(0,1),(1,1)] [.slice .none 0 0, .slice .none 0 0] []) 3206,o1 210 (.bslx 39 2 1 [.slice .none 0 0, .slice .none 0 0] [(0, .t 209)]) 3207,o1 211 (.call 7 [.t 208, .t 210]) 3208,o1 207 (.mv (.t 211)) 3209,o1 212 (.ext (.t 207) 0) 3210,o1 213 (.ext (.t 207) 1) 3211,o1 30 (.mv (.t 212)) 3212,o1 31 (.mv (.t 213)) 3213]) (.seq (.reg 3214 5 [o1 214 (.faddr 0 (.t 1)) 3214,o1 215 (.load 1 .false (.t 214)) 3215,o1 216 (.iaddr 3 (.t 215) (.k (.int .i64 0))) 3216,o1 217 (.faddr 1 (.t 216)) 3217,o2 (.store 1 (.t 217) (.k (.int .i64 2))) 3218]) (.seq (.reg 3219 8 [o1 219 (.load 2 .true (.t 1)) 3219,o1 220 (.mv (.t 2)) 3220,o1 221 (.call 5 [.t 219, .t 220]) 3221,o1 218 (.mv (.t 221)) 3222,o1 222 (.ext (.t 218) 0) 3223,o1 223 (.ext (.t 218) 1) 3224,o1 32 (.mv (.t 222)) 3225,o1 33 (.mv (.t 223)) 3226]) (.seq (.reg
 3227 49 [o1 224 (.mv (.t 17)) 3227,o1 225 (.bin .eql (.t 224) (.k (.int .i64 9))) 3228,o1 226 (.mv (.t 225)) 3229, .mk (.some 227) (.mv (.t 16)) (.some (226, .true)) 3230 .none .false [] .false, .mk (.some 228) (.bin .eql (.t 227) (.k
 (.int .i64 4))) (.some (226, .true)) 3231 .none .false [] .false,o1 229 (.pick (.t 226) (.t 228) (.k (.bool .false))) 3232,o1 230 (.mv (.t 229)) 3233, .mk (.some 231) (.mv (.t 21)) (.some (230, .true)) 3234 .none .false [] .false, .mk (.some 232) (.bin .eql (.t 231) (.k (.int
 .i64 9))) (.some (230, .true)) 3235 .none .false [] .false,o1 233 (.pick (.t 230) (.t 232) (.k (.bool .false))) 3236,o1 234 (.mv (.t 233)) 3237, .mk (.some 235) (.mv (.t 20)) (.some (234, .true)) 3238 .none .false [] .false, .mk (.some 236) (.bin .eql (.t 235) (.k (.int .i64
 3))) (.some (234, .true)) 3239 .none .false [] .false,o1 237 (.pick (.t 234) (.t 236) (.k (.bool .false))) 3240,o1 238 (.mv (.t 237)) 3241, .mk (.some 239) (.mv (.t 25)) (.some (238, .true)) 3242 .none .false [] .false, .mk (.some 240) (.bin .eql (.t 239) (.k (.int .i64 9)))
 (.some (238, .true)) 3243 .none .false [] .false,o1 241 (.pick (.t 238) (.t 240) (.k (.bool .false))) 3244,o1 242 (.mv (.t 241)) 3245, .mk (.some 243) (.mv (.t 24)) (.some (242, .true)) 3246 .none .false [] .false, .mk (.some 244) (.bin .eql (.t 243) (.k (.int .i64 3))) (.some
 (242, .true)) 3247 .none .false [] .false,o1 245 (.pick (.t 242) (.t 244) (.k (.bool .false))) 3248,o1 246 (.mv (.t 245)) 3249, .mk (.some 247) (.mv (.t 29)) (.some (246, .true)) 3250 .none .false [] .false, .mk (.some 248) (.bin .eql (.t 247) (.k (.int .i64 3))) (.some (246,
 .true)) 3251 .none .false [] .false,o1 249 (.pick (.t 246) (.t 248) (.k (.bool .false))) 3252,o1 250 (.mv (.t 249)) 3253, .mk (.some 251) (.mv (.t 31)) (.some (250, .true)) 3254 .none .false [] .false, .mk (.some 252) (.bin .eql (.t 251) (.k (.int .i64 1))) (.some (250,
 .true)) 3255 .none .false [] .false,o1 253 (.pick (.t 250) (.t 252) (.k (.bool .false))) 3256,o1 254 (.mv (.t 253)) 3257, .mk (.some 255) (.mv (.t 33)) (.some (254, .true)) 3258 .none .false [] .false, .mk (.some 256) (.bin .eql (.t 255) (.k (.int .i64 1))) (.some (254,
 .true)) 3259 .none .false [] .false,o1 257 (.pick (.t 254) (.t 256) (.k (.bool .false))) 3260,o1 258 (.mv (.t 257)) 3261, .mk (.some 259) (.load 2 .true (.t 1)) (.some (258, .true)) 3262 .none .false [] .false, .mk (.some 260) (.call 11 [.t 259]) (.some (258, .true)) 3263
 .none .false [] .false, .mk (.some 261) (.bin .eql (.t 260) (.k (.int .i64 1))) (.some (258, .true)) 3264 .none .false [] .false,o1 262 (.pick (.t 258) (.t 261) (.k (.bool .false))) 3265,o1 263 (.mv (.t 262)) 3266, .mk (.some 264) (.bslx 3 1 1 [.int .i64 0] [(0, .k (.int .i64
 0))]) (.some (263, .true)) 3267 .none .false [] .false, .mk (.some 265) (.bld [(0,1),(1,1)] [.slice .none 0 0, .slice .none 0 0] [(1, .t 264)]) (.some (263, .true)) 3268 .none
 .false [] .false, .mk (.some 266) (.call 11 [.t 265]) (.some (263, .true)) 3269 .none .false [] .false, .mk (.some 267) (.bin .eql (.t 266) (.k (.int .i64 1))) (.some (263,
 .true)) 3270 .none .false [] .false,o1 268 (.pick (.t 263) (.t 267) (.k (.bool .false))) 3271,o1 269 (.mv (.t 268)) 3272, .mk (.some 270) (.call 12 []) (.some (269, .true)) 3273 .none .false [] .false,o1 271 (.pick (.t 269) (.t 270) (.k (.bool .false))) 3274,o1 0 (.mv (.t 271)) 3275]) .ret))))))))))))))
def rsN3:List IRes:=[.tmp 0]
set_option maxRecDepth 100000 in
theorem compN3:CompAt Try.prog 3 3000 irN3 rsN3 272:=⟨⟨_,_,3276,Try.func3,rfl,by kernel_rfl,by kernel_rfl,rfl⟩⟩
def irN4:IC :=
 .seq (.reg 3000 2 [o1 0 (.alloc 25 [.slice .none 0 0, .slice .none 0 0]) 3000,o1 1 (.mv (.k (.slice .none 0 0))) 3001]) (.seq (.reg 3002 1 [o1 2 (.alloc 25 [.slice .none 0 0, .slice .none 0 0]) 3002]) (.seq (.reg 3003 2 [.mk (.some 6) (.bslx
 9 1 6 [.string (ByteArray.mk (Array.mk [])), .string (ByteArray.mk (Array.mk [])), .string (ByteArray.mk (Array.mk [])), .string (ByteArray.mk (Array.mk [])), .string
 (ByteArray.mk (Array.mk [])), .string (ByteArray.mk (Array.mk []))] [(0, .k (.string (ByteArray.mk (Array.mk [116,104,101])))),(1, .k (.string (ByteArray.mk (Array.mk [104,
 111,110,111,117,114,97,98,108,101])))),(2, .k (.string (ByteArray.mk (Array.mk [109,101,109,98,101,114])))),(3, .k (.string (ByteArray.mk (Array.mk [101,114])))),
 (4, .k (.string (ByteArray.mk (Array.mk [115,97,121,115])))),(5, .k (.string (ByteArray.mk (Array.mk [110,111]))))]) .none 3003 .none .false [] .false,o1 3 (.mv (.t 6)) 3004]) (.seq (.reg 3005 2 [o1 7 (.bslx 3 1 6 [.int .i64 0, .int .i64 0, .int .i64 0, .int .i64 0, .int .i64 0, .int .i64 0] [(0, .k (.int .i64 1)),(1, .k (.int .i64 1)),(2, .k (.int .i64 2)),(3, .k (.int .i64 3)),(4, .k (.int .i64 4)),(5, .k (.int .i64 5))]) 3005,o1 4 (.mv (.t 7)) 3006]) (.seq (.seq (.reg 3007 1 [o1 5 (.mv (.k (.int .i64 0))) 3007]) (.block 0 (.loop (.seq (.seq (.reg
 3008 4 [o1 8 (.mv (.t 5)) 3008,o1 9 (.mv (.t 3)) 3009,o1 10 (.len (.t 9)) 3010,o1 11 (.bin .lss (.t 8) (.t 10)) 3011]) (.cond (.t 11) .skip (.exit 0))) (.seq (.block 1 (.draw 3012 15 [] [] [o3 14 (.faddr 0 (.t 2)) 3012,o3 15 (.load 1 .false (.t 14)) 3013,o3 16 (.mv (.t 3)) 3014,o3 17 (.mv (.t 5)) 3015,o3 18 (.iaddr 1 (.t 16) (.t 17)) 3016,o3 19 (.load 1 .false (.t 18)) 3017,o3 20 (.mv (.t 4)) 3018,o3 21 (.mv (.t 5)) 3019,o3 22 (.iaddr 1 (.t 20) (.t 21)) 3020,o3 23 (.load 1 .false (.t 22)) 3021, .mk (.some 24) (.bld [(0,1),(1,1),(2,1)] [.string (ByteArray.mk (Array.mk [])), .int .i64 0, .int .i64 0] [(0, .t 19),(1, .t 23),(2, .k (.int .i64 7))])
 .none 3022 (.some []) .true [] .false, .mk (.some 25) (.bsl 51 3 1 [.string (ByteArray.mk (Array.mk [])), .int .i64 0, .int .i64 0] [(0, .t 24)]) .none 3023 (.some []) .true []
 .false, .mk (.some 26) (.apph 51 3 32 (.t 15) (.t 25)) .none 3024 (.some [0,3023]) .true [] .true, .mk (.some 27) (.faddr 0 (.t 2)) .none 3025 (.some [3023]) .true [] .false, .mk
 .none (.store 1 (.t 27) (.t 26)) .none 3026 (.some [3023]) .true [] .false])) (.reg 3027 3 [o1 12 (.mv (.t 5)) 3027,o1 13 (.bin .add (.t 12) (.k (.int .i64 1))) 3028,o1 5 (.mv (.t 13)) 3029])))))) (.seq (.reg 3030 3 [o1 28 (.bslx 3 1 1 [.int .i64 0] [(0, .k (.int .i64 5))]) 3030,o1 29 (.faddr 1 (.t 2)) 3031,o2 (.store 1 (.t 29) (.t 28)) 3032]) (.seq (.reg 3033 9 [o1 30 (.load 2 .true (.t 2)) 3033,o1 31 (.bld [(0,1),(1,1),(2,1),(3,1)] [.int .i64 0, .int .i64 0, .int .i64 0, .slice .none 0 0] [(1, .k (.int .i64 3)),(2, .k (.int .i64 1))]) 3034, .mk (.some 32) (.bslx 9 1 1
 [.string (ByteArray.mk (Array.mk []))] [(0, .k (.string (ByteArray.mk (Array.mk [116,104,97,116]))))]) .none 3035 .none .false [] .false,o1 33 (.bld [(0,1),(1,1),(2,1),(3,1)] [.int .i64 0, .int .i64 0, .int .i64 0, .slice .none 0 0] [(1, .k (.int .i64 4)),(3, .t 32)]) 3036, .mk (.some 34) (.bslx 9 1 1
 [.string (ByteArray.mk (Array.mk []))] [(0, .k (.string (ByteArray.mk (Array.mk [77,101,109,98,101,114]))))]) .none 3037 .none .false [] .false,o1 35 (.bld [(0,1),(1,1),(2,1),(3,1)] [.int .i64 0, .int .i64 0, .int .i64 0, .slice .none 0 0] [(1, .k (.int .i64 1)),(2, .k (.int .i64 2)),(3, .t 34)]) 3038,
 o1 36 (.bslx 45 4 3 [.int .i64 0, .int .i64 0, .int .i64 0, .slice .none 0 0, .int .i64 0, .int .i64 0, .int .i64 0, .slice .none 0 0, .int .i64 0, .int .i64 0, .int .i64 0, .slice .none 0 0] [(0, .t 31),(1, .t 33),(2, .t 35)]) 3039,o2 (.store 2 (.t 0) (.t 30)) 3040,o1 1 (.mv (.t 36)) 3041]) .ret))))))
def rsN4:List IRes:=[.cell 0 2 .true, .tmp 1]
set_option maxRecDepth 100000 in
theorem compN4:CompAt Try.prog 4 3000 irN4 rsN4 37:=⟨⟨_,_,3042,Try.func4,rfl,by kernel_rfl,by kernel_rfl,rfl⟩⟩
theorem bodyN4:HasBody Try.prog 4:=hasBody_of (by kernel_rfl)

end Go.Proofs.Ytfppbjfbghaclaa
