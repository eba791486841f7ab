/- TopTaken: of the takes: the intermediate forms of functions of the program (printed by a program of mine), each checked against the code. -/
import Derived.Test.YtefnikpoimaiiaaGreatMC
import Derived.Test.YtefnikpoimaiiaaGreatProg
import Derived.KernelRfl
set_option linter.unusedSimpArgs false
set_option linter.unusedVariables false
namespace Go.Proofs.YtefnikpoimaiiaaGreat.L
open Go.Pal
def ir10:IC :=
 .seq (.reg 0 2 [o1 1 (.box 52 (.t 0)) 0,o1 2 (.mv (.k (.int .i64 0))) 1]) (.seq (.seq (.reg 2 3 [o1 3 (.load 4 .true (.t 1)) 2,o1 4 (.call 44 [.t 3]) 3,o1 5 (.un .not (.t 4)) 4]) (.cond (.t 5) (.seq (.reg 5 1 [o1 2 (.mv (.k (.int .i64 1))) 5]) .ret) .skip)) (.seq (.seq (.reg 6 4 [o1 6 (.load 4 .true (.t 1)) 6,o1 7 (.call 45 [.t 6]) 7,o1 8 (.len (.t 7)) 8,o1 9 (.bin .gtr (.t 8) (.k (.int .i64 40))) 9]) (.cond (.t 9) (.seq (.reg 10 1 [o1 2 (.mv (.k (.int .i64 3))) 10]) .ret) .skip)) (.seq (.reg 11 1 [o1 2 (.mv (.k (.int .i64 0))) 11]) .ret)))
def rs10:List IRes:=[.tmp 2]
set_option maxRecDepth 100000 in
theorem comp10:Comp Tryz.prog 16 ir10 rs10 10:=⟨⟨_,_,12,Tryz.func16,rfl,by kernel_rfl,by kernel_rfl,rfl⟩⟩
theorem body10:HasBody Tryz.prog 16:=hasBody_of (by kernel_rfl)

def ir13:IC :=
 .seq (.reg 0 2 [o1 1 (.box 52 (.t 0)) 0,o1 2 (.alloc 69 [.int .i64 0, .slice .none 0 0, .int .i64 0, .int .i64 0]) 1]) (.seq (.reg 2 9 [o1 5 (.faddr 0 (.t 1)) 2,o1 6 (.load 1 .false (.t 5)) 3,o1 7 (.faddr 2 (.t 1)) 4,o1 8 (.load 1 .false (.t 7)) 5,o1 9 (.faddr 3 (.t 1)) 6,o1 10 (.load 1 .false (.t 9)) 7,o1 11 (.bld [(0,1),(1,1),(2,1),(3,1)] [.int .i64 0, .slice .none 0 0, .int .i64 0, .int .i64 0] [(0, .t 6),(2, .t 8),(3, .t 10)]) 8,o1 3 (.alloc 69 [.int .i64 0, .slice .none 0 0, .int .i64 0, .int .i64 0]) 9,o2 (.store 4 (.t 3) (.t 11)) 10]) (.seq (.seq (.reg 11 1 [o1 4 (.mv (.k (.int .i64 0))) 11]) (.block 0 (.loop (.seq (.seq (.reg 12 5 [o1 12 (.mv (.t 4)) 12,o1 13 (.faddr 1 (.t 1)) 13,o1 14 (.load 1 .false (.t 13)) 14,o1 15 (.len (.t 14)) 15,o1 16 (.bin .lss (.t 12) (.t 15)) 16]) (.cond (.t 16) .skip (.exit 0))) (.seq (.block 1 (.draw 17 19 [] [] [o3 19 (.faddr 1 (.t 3)) 17,o3 20 (.load 1 .false (.t 19)) 18,o3 21 (.faddr 1 (.t 1)) 19,o3 22 (.load 1 .false (.t 21)) 20,o3 23 (.mv (.t 4)) 21,o3 24 (.iaddr 2 (.t 22) (.t 23)) 22,o3 25 (.faddr 0 (.t 24)) 23,o3 26 (.load 1 .false (.t 25)) 24,o3 27 (.faddr 1 (.t 1)) 25,o3 28 (.load 1 .false (.t 27)) 26,o3 29 (.mv (.t 4)) 27,o3 30 (.iaddr 2 (.t 28) (.t 29)) 28,o3 31 (.faddr 1 (.t 30)) 29,o3 32 (.load 1 .false (.t 31)) 30,o3 33 (.bld [(0,1),(1,1)] [.int .i64 0, .int .i64 0] [(0, .t 26),(1, .t 32)]) 31,o3 34 (.bsl 143 2 1 [.int .i64 0, .int .i64 0] [(0, .t 33)]) 32, .mk (.some 35) (.app 143 2 16 (.t 20) (.t 34)) .none 33
 (.some [32]) .true [] .false, .mk (.some 36) (.faddr 1 (.t 3)) .none 34 (.some [33,32]) .true [] .false, .mk .none (.store 1 (.t 36) (.t 35)) .none 35 (.some [32,33]) .true []
 .false])) (.reg 36 3 [o1 17 (.mv (.t 4)) 36,o1 18 (.bin .add (.t 17) (.k (.int .i64 1))) 37,o1 4 (.mv (.t 18)) 38])))))) (.seq (.reg 39 2 [o1 37 (.load 4 .true (.t 3)) 39,o2 (.store 4 (.t 2) (.t 37)) 40]) .ret)))
def rs13:List IRes:=[.cell 2 4 .true]
set_option maxRecDepth 100000 in
theorem comp13:Comp Tryz.prog 22 ir13 rs13 38:=⟨⟨_,_,41,Tryz.func22,rfl,by kernel_rfl,by kernel_rfl,rfl⟩⟩
theorem body13:HasBody Tryz.prog 22:=hasBody_of (by kernel_rfl)

def ir15:IC :=
 .seq (.reg 0 4 [o1 2 (.box 69 (.t 0)) 0,o1 3 (.box 3 (.t 1)) 1,o1 4 (.mv (.k (.int .i64 0))) 2,o1 5 (.mv (.k (.int .i64 0))) 3]) (.seq (.reg 4 7 [o1 10 (.load 4 .true (.t 2)) 4,o1 11 (.call 52 [.t 10]) 5,o1 9 (.mv (.t 11)) 6,o1 12 (.ext (.t 9) 0) 7,o1 13 (.ext (.t 9) 1) 8,o1 6 (.mv (.t 12)) 9,o1 7 (.mv (.t 13)) 10]) (.seq (.seq (.reg 11 2 [o1 14 (.mv (.t 7)) 11,o1 15 (.bin .neq (.t 14) (.k (.int .i64 0))) 12]) (.cond (.t 15) (.seq (.reg 13 3 [o1 16 (.mv (.t 7)) 13,o1 4 (.mv (.k (.int .i64 0))) 14,o1 5 (.mv (.t 16)) 15]) .ret) .skip)) (.seq (.seq (.reg 16 6 [o1 17 (.load 1 .false (.t 3)) 16,o1 18 (.faddr 0 (.t 2)) 17,o1 19 (.load 1 .false (.t 18)) 18,o1 20 (.bin .sub (.t 19) (.k (.int .i64 1))) 19,o1 21 (.call 53 [.t 17, .k (.int .i64 0), .t 20]) 20,o1 22 (.un .not (.t 21)) 21]) (.cond (.t 22) (.seq (.reg 22 2 [o1 4 (.mv (.k (.int .i64 0))) 22,o1 5 (.mv (.k (.int .i64 2))) 23]) .ret) .skip)) (.seq (.reg 24 4 [o1 23 (.mv (.t 6)) 24,o1 24 (.mkf 55 [] [.t 3]) 25,o1 25 (.call 54 [.t 23, .t 24]) 26,o1 8 (.mv (.t 25)) 27]) (.seq (.seq (.reg
 28 2 [o1 26 (.mv (.t 8)) 28,o1 27 (.bin .lss (.t 26) (.k (.int .i64 0))) 29]) (.cond (.t 27) (.seq
 (.reg 30 2 [o1 4 (.mv (.k (.int .i64 0))) 30,o1 5 (.mv (.k (.int .i64 7))) 31]) .ret) .skip)) (.seq
 (.reg 32 3 [o1 28 (.mv (.t 8)) 32,o1 4 (.mv (.t 28)) 33,o1 5 (.mv (.k (.int .i64 0))) 34]) .ret))))))
def rs15:List IRes:=[.tmp 4, .tmp 5]
set_option maxRecDepth 100000 in
theorem comp15:Comp Tryz.prog 24 ir15 rs15 29:=⟨⟨_,_,35,Tryz.func24,rfl,by kernel_rfl,by kernel_rfl,rfl⟩⟩
theorem body15:HasBody Tryz.prog 24:=hasBody_of (by kernel_rfl)

def ir17:IC :=
 .seq (.reg 0 4 [o1 2 (.box 69 (.t 0)) 0,o1 3 (.box 73 (.t 1)) 1,o1 4 (.mv (.k (.slice .none 0 0))) 2,o1 5 (.mv (.k (.int .i64 0))) 3]) (.seq (.reg 4 8 [o1 11 (.load 4 .true (.t 2)) 4,o1 12 (.load 3 .true (.t 3)) 5,o1 13 (.call 50 [.t 11, .t 12]) 6,o1 10 (.mv (.t 13)) 7,o1 14 (.ext (.t 10) 0) 8,o1 15 (.ext (.t 10) 1) 9,o1 6 (.mv (.t 14)) 10,o1 7 (.mv (.t 15)) 11]) (.seq (.seq (.reg 12 2 [o1 16 (.mv (.t 7)) 12,o1 17 (.bin .neq (.t 16) (.k (.int .i64 0))) 13]) (.cond (.t 17) (.seq (.reg 14 3 [o1 18 (.mv (.t 7)) 14,o1 4 (.mv (.k (.slice .none 0 0))) 15,o1 5 (.mv (.t 18)) 16]) .ret) .skip))
 (.seq (.reg 17 7 [o1 20 (.mv (.t 6)) 17,o1 21 (.call 51 [.t 20, .k (.slice .none 0 0), .k (.int .i64 (-1))]) 18,o1 19 (.mv (.t 21)) 19,o1 22 (.ext (.t 19) 0) 20,o1 23 (.ext (.t 19) 1) 21,o1 8 (.mv (.t 22)) 22,o1 9 (.mv (.t 23)) 23]) (.seq (.seq (.reg 24 7 [o1 24 (.mv (.t 9)) 24,o1 25 (.mv (.t 6)) 25,o1 26 (.nilc (.t 25)) 26,o1 27 (.faddr 7 (.t 26)) 27,o1 28 (.load 1 .false (.t 27)) 28,o1 29 (.len (.t 28)) 29,o1 30 (.bin .lss (.t 24) (.t 29)) 30]) (.cond (.t 30) (.seq (.reg 31 2 [o1 4 (.mv (.k (.slice .none 0 0))) 31,o1 5 (.mv (.k (.int .i64 9))) 32]) .ret) .skip)) (.seq (.reg 33 3 [o1 31 (.mv (.t 8)) 33,o1 4 (.mv (.t 31)) 34,o1 5 (.mv (.k (.int .i64 0))) 35]) .ret)))))
def rs17:List IRes:=[.tmp 4, .tmp 5]
set_option maxRecDepth 100000 in
theorem comp17:Comp Tryz.prog 21 ir17 rs17 32:=⟨⟨_,_,36,Tryz.func21,rfl,by kernel_rfl,by kernel_rfl,rfl⟩⟩
theorem body17:HasBody Tryz.prog 21:=hasBody_of (by kernel_rfl)

def ir18:IC :=
 .seq (.reg 0 2 [o1 1 (.box 55 (.t 0)) 0,o1 2 (.alloc 73 [.slice .none 0 0, .int .i64 0, .int .i64 0]) 1]) (.seq (.reg 2 7 [o1 6 (.faddr 1 (.t 1)) 2,o1 7 (.load 1 .false (.t 6)) 3,o1 8 (.faddr 2 (.t 1)) 4,o1 9 (.load 1 .false (.t 8)) 5,o1 10 (.bld [(0,1),(1,1),(2,1)] [.slice .none 0 0, .int .i64 0, .int .i64 0] [(1, .t 7),(2, .t 9)]) 6,o1 3 (.alloc 73 [.slice .none 0 0, .int .i64 0, .int .i64 0]) 7,o2 (.store 3 (.t 3) (.t 10)) 8]) (.seq (.seq (.reg 9 1 [o1 4 (.mv (.k (.int .i64 0))) 9])
 (.block 0 (.loop (.seq (.seq (.reg 10 5 [o1 11 (.mv (.t 4)) 10,o1 12 (.faddr 0 (.t 1)) 11,o1 13 (.load 1 .false (.t 12)) 12,o1 14 (.len (.t 13)) 13,o1 15 (.bin .lss (.t 11) (.t 14)) 14]) (.cond (.t 15) .skip (.exit 0))) (.seq (.block 1 (.seq (.reg 15 7 [o1 18 (.faddr 0 (.t 1)) 15,o1 19 (.load 1 .false (.t 18)) 16,o1 20 (.mv (.t 4)) 17,o1 21 (.iaddr 3 (.t 19) (.t 20)) 18,o1 22 (.load 3 .true (.t 21)) 19,o1 5 (.alloc 128 [.int .i64 0, .int .i64 0, .int .i64 0]) 20,
 o2 (.store 3 (.t 5) (.t 22)) 21]) (.reg 22 16 [o1 23 (.faddr 0 (.t 3)) 22,o1 24 (.load 1 .false (.t 23)) 23,o1 25 (.faddr 0 (.t 5)) 24,o1 26 (.faddr 0 (.t 25)) 25,o1 27 (.load 1 .false (.t 26)) 26,o1 28 (.faddr 0 (.t 5)) 27,o1 29 (.faddr 1 (.t 28)) 28,o1 30 (.load 1 .false (.t 29)) 29,o1 31 (.bld [(0,1),(1,1)] [.int .i64 0, .int .i64 0] [(0, .t 27),(1, .t 30)]) 30,o1 32 (.faddr 2 (.t 5)) 31,o1 33 (.load 1 .false (.t 32)) 32,o1 34 (.bld [(0,2),(2,1)] [.int .i64 0, .int .i64 0, .int .i64 0] [(0, .t 31),(1, .t 33)]) 33,o1 35 (.bsl 146 3 1 [.int .i64 0, .int .i64 0, .int .i64 0] [(0, .t 34)]) 34,o1 36 (.app 146 3 24 (.t 24) (.t 35)) 35,o1 37 (.faddr 0 (.t 3)) 36,o2 (.store 1 (.t 37) (.t 36)) 37]))) (.reg 38 3 [o1 16 (.mv (.t 4)) 38,o1 17 (.bin .add (.t 16) (.k (.int .i64 1))) 39,o1 4 (.mv (.t 17)) 40])))))) (.seq
 (.reg 41 2 [o1 38 (.load 3 .true (.t 3)) 41,o2 (.store 3 (.t 2) (.t 38)) 42]) .ret)))
def rs18:List IRes:=[.cell 2 3 .true]
set_option maxRecDepth 100000 in
theorem comp18:Comp Tryz.prog 23 ir18 rs18 39:=⟨⟨_,_,43,Tryz.func23,rfl,by kernel_rfl,by kernel_rfl,rfl⟩⟩
theorem body18:HasBody Tryz.prog 23:=hasBody_of (by kernel_rfl)

def ir23:IC :=
 .seq (.reg 0 2 [o1 1 (.box 55 (.t 0)) 0,o1 2 (.mv (.k (.bool .false))) 1]) (.seq (.seq (.reg 2 1 [o1 3 (.mv (.k (.int .i64 0))) 2]) (.block 0 (.loop (.seq (.seq (.reg 3 5 [o1 5 (.mv (.t 3)) 3,o1 6 (.faddr 0 (.t 1)) 4,o1 7 (.load 1 .false (.t 6)) 5,o1 8 (.len (.t 7)) 6,o1 9 (.bin .lss (.t 5) (.t 8)) 7]) (.cond (.t 9) .skip (.exit 0))) (.seq (.block 1 (.seq (.reg 8 7 [o1 12 (.faddr 0 (.t 1)) 8,o1 13 (.load 1 .false (.t 12)) 9,o1 14 (.mv (.t 3)) 10,o1 15 (.iaddr 3 (.t 13) (.t 14)) 11,o1 16 (.load 3 .true (.t 15)) 12,o1 4 (.alloc 128 [.int .i64 0, .int .i64 0, .int .i64 0]) 13,o2 (.store 3 (.t 4) (.t 16)) 14]) (.seq (.reg 15 25 [o1 17 (.faddr 0 (.t 4)) 15,o1 18 (.faddr 0 (.t 17)) 16,o1 19 (.load 1 .false (.t 18)) 17,o1 20 (.bin .lss (.t 19) (.k (.int .i64 0))) 18,o1 21 (.mv (.t 20)) 19, .mk (.some 22) (.faddr 0 (.t 4))
 (.some (21, .false)) 20 .none .false [] .false, .mk (.some 23) (.faddr 0 (.t 22)) (.some (21, .false)) 21 .none .false [] .false, .mk (.some 24) (.load 1 .false (.t 23)) (.some
 (21, .false)) 22 .none .false [] .false, .mk (.some 25) (.faddr 0 (.t 4)) (.some (21, .false)) 23 .none .false [] .false, .mk (.some 26) (.faddr 1 (.t 25)) (.some (21, .false)) 24
 .none .false [] .false, .mk (.some 27) (.load 1 .false (.t 26)) (.some (21, .false)) 25 .none .false [] .false, .mk (.some 28) (.bin .gtr (.t 24) (.t 27)) (.some (21, .false)) 26
 .none .false [] .false,o1 29 (.pick (.t 21) (.k (.bool .true)) (.t 28)) 27,o1 30 (.mv (.t 29)) 28,
 .mk (.some 31) (.faddr 0 (.t 4)) (.some (30, .false)) 29 .none .false [] .false, .mk (.some 32) (.faddr 1 (.t 31)) (.some (30, .false)) 30 .none .false [] .false, .mk (.some 33)
 (.load 1 .false (.t 32)) (.some (30, .false)) 31 .none .false [] .false, .mk (.some 34) (.bin .gtr (.t 33) (.k (.int .i64 20))) (.some (30, .false)) 32 .none .false [] .false,o1 35 (.pick (.t 30) (.k (.bool .true)) (.t 34)) 33,o1 36 (.mv (.t 35)) 34, .mk (.some 37) (.faddr 2 (.t
 4)) (.some (36, .false)) 35 .none .false [] .false, .mk (.some 38) (.load 1 .false (.t 37)) (.some (36, .false)) 36 .none .false [] .false, .mk (.some 39) (.call 46 [.t 38, .k
 (.int .i64 0), .k (.int .i64 36000)]) (.some (36, .false)) 37 .none .false [] .false, .mk (.some 40) (.un .not (.t 39)) (.some (36, .false)) 38 .none .false [] .false,o1 41 (.pick (.t 36) (.k (.bool .true)) (.t 40)) 39]) (.cond (.t 41) (.seq (.reg 40 1 [o1 2 (.mv (.k (.bool .false))) 40]) .ret) .skip)))) (.reg 41 3 [o1 10 (.mv (.t 3)) 41,o1 11 (.bin .add (.t 10) (.k (.int .i64 1))) 42,o1 3 (.mv (.t 11)) 43])))))) (.seq (.reg 44 15 [o1 42 (.faddr 0 (.t 1)) 44,o1 43 (.load 1 .false (.t 42)) 45,o1 44 (.len (.t 43)) 46,o1 45 (.call 46 [.t 44, .k (.int .i64 1), .k (.int .i64 5)]) 47,o1 46 (.mv (.t 45)) 48, .mk (.some 47) (.faddr 1 (.t 1)) (.some (46, .true)) 49 .none .false
 [] .false, .mk (.some 48) (.load 1 .false (.t 47)) (.some (46, .true)) 50 .none .false [] .false, .mk (.some 49) (.call 46 [.t 48, .k (.int .i64 0), .k (.int .i64 36000)]) (.some
 (46, .true)) 51 .none .false [] .false,o1 50 (.pick (.t 46) (.t 49) (.k (.bool .false))) 52,o1 51 (.mv (.t 50)) 53, .mk (.some 52) (.faddr 2 (.t 1)) (.some (51, .true)) 54 .none .false [] .false, .mk (.some 53) (.load 1 .false (.t 52)) (.some (51, .true)) 55 .none .false []
 .false, .mk (.some 54) (.call 46 [.t 53, .k (.int .i64 0), .k (.int .i64 36000)]) (.some (51, .true)) 56 .none .false [] .false,o1 55 (.pick (.t 51) (.t 54) (.k (.bool .false))) 57,o1 2 (.mv (.t 55)) 58]) .ret))
def rs23:List IRes:=[.tmp 2]
set_option maxRecDepth 100000 in
theorem comp23:Comp Tryz.prog 17 ir23 rs23 56:=⟨⟨_,_,59,Tryz.func17,rfl,by kernel_rfl,by kernel_rfl,rfl⟩⟩
theorem body23:HasBody Tryz.prog 17:=hasBody_of (by kernel_rfl)

def ir32:IC :=
 .seq (.reg 0 2 [o1 1 (.box 52 (.t 0)) 0,o1 2 (.mv (.k (.bool .false))) 1]) (.seq (.reg 2 1 [o1 3 (.mv (.k (.int .i64 (-1)))) 2]) (.seq (.seq (.reg 3 1 [o1 4 (.mv (.k (.int .i64 0))) 3]) (.block 0 (.loop
 (.seq (.seq (.reg 4 5 [o1 6 (.mv (.t 4)) 4,o1 7 (.faddr 1 (.t 1)) 5,o1 8 (.load 1 .false (.t 7)) 6,o1 9 (.len (.t 8)) 7,o1 10 (.bin .lss (.t 6) (.t 9)) 8]) (.cond
 (.t 10) .skip (.exit 0))) (.seq (.block 1 (.seq (.reg 9 7 [o1 13 (.faddr 1 (.t 1)) 9,o1 14 (.load 1 .false (.t 13)) 10,o1 15 (.mv (.t 4)) 11,o1 16 (.iaddr 2 (.t 14) (.t 15)) 12,o1 17 (.load 2 .true (.t 16)) 13,o1 5 (.alloc 142 [.int .i64 0, .int .i64 0]) 14,o2 (.store 2 (.t 5) (.t 17)) 15]) (.seq (.seq (.reg 16 23 [o1 18 (.faddr 0 (.t 5)) 16,o1 19 (.load 1 .false (.t 18)) 17,o1 20 (.mv (.t 3)) 18,o1 21 (.bin .leq (.t 19) (.t 20)) 19,o1 22 (.mv (.t 21)) 20, .mk (.some 23) (.faddr 0 (.t 5)) (.some (22, .false)) 21 .none .false [] .false, .mk (.some 24) (.load 1 .false (.t 23)) (.some (22, .false)) 22
 .none .false [] .false, .mk (.some 25) (.bin .lss (.t 24) (.k (.int .i64 0))) (.some (22, .false)) 23 .none .false [] .false,o1 26 (.pick (.t 22) (.k (.bool .true)) (.t 25)) 24,o1 27 (.mv (.t 26)) 25, .mk (.some 28) (.faddr 0 (.t 5)) (.some (27, .false)) 26 .none .false []
 .false, .mk (.some 29) (.load 1 .false (.t 28)) (.some (27, .false)) 27 .none .false [] .false, .mk (.some 30) (.faddr 1 (.t 5)) (.some (27, .false)) 28 .none .false [] .false,
 .mk (.some 31) (.load 1 .false (.t 30)) (.some (27, .false)) 29 .none .false [] .false, .mk (.some 32) (.bin .geq (.t 29) (.t 31)) (.some (27, .false)) 30 .none .false [] .false,
 o1 33 (.pick (.t 27) (.k (.bool .true)) (.t 32)) 31,o1 34 (.mv (.t 33)) 32, .mk (.some 35) (.faddr 1
 (.t 5)) (.some (34, .false)) 33 .none .false [] .false, .mk (.some 36) (.load 1 .false (.t 35)) (.some (34, .false)) 34 .none .false [] .false, .mk (.some 37) (.faddr 0 (.t 1))
 (.some (34, .false)) 35 .none .false [] .false, .mk (.some 38) (.load 1 .false (.t 37)) (.some (34, .false)) 36 .none .false [] .false, .mk (.some 39) (.bin .gtr (.t 36) (.t 38))
 (.some (34, .false)) 37 .none .false [] .false,o1 40 (.pick (.t 34) (.k (.bool .true)) (.t 39)) 38]) (.cond (.t 40) (.seq (.reg 39 1 [o1 2 (.mv (.k (.bool .false))) 39]) .ret) .skip)) (.reg 40 3 [o1 41 (.faddr 1 (.t 5)) 40,o1 42 (.load 1 .false (.t 41)) 41,o1 3 (.mv (.t 42)) 42])))) (.reg 43 3 [o1 11 (.mv (.t 4)) 43,o1 12 (.bin .add (.t 11) (.k (.int .i64 1))) 44,o1 4 (.mv (.t 12)) 45])))))) (.seq
 (.reg 46 16 [o1 43 (.faddr 0 (.t 1)) 46,o1 44 (.load 1 .false (.t 43)) 47,o1 45 (.call 46 [.t 44, .k (.int .i64 1), .k (.int .i64 36000)]) 48,o1 46 (.mv (.t 45)) 49, .mk (.some 47) (.faddr 2 (.t 1))
 (.some (46, .true)) 50 .none .false [] .false, .mk (.some 48) (.load 1 .false (.t 47)) (.some (46, .true)) 51 .none .false [] .false, .mk (.some 49) (.call 46 [.t 48, .k (.int
 .i64 1), .k (.int .i64 1200)]) (.some (46, .true)) 52 .none .false [] .false,o1 50 (.pick (.t 46) (.t 49) (.k (.bool .false))) 53,o1 51 (.mv (.t 50)) 54, .mk (.some 52) (.faddr 3 (.t 1)) (.some (51, .true)) 55 .none .false [] .false, .mk (.some 53) (.load 1 .false (.t 52))
 (.some (51, .true)) 56 .none .false [] .false, .mk (.some 54) (.faddr 2 (.t 1)) (.some (51, .true)) 57 .none .false [] .false, .mk (.some 55) (.load 1 .false (.t 54)) (.some (51,
 .true)) 58 .none .false [] .false, .mk (.some 56) (.call 46 [.t 53, .k (.int .i64 1), .t 55]) (.some (51, .true)) 59 .none .false [] .false,o1 57 (.pick (.t 51) (.t 56) (.k (.bool .false))) 60,o1 2 (.mv (.t 57)) 61]) .ret)))
def rs32:List IRes:=[.tmp 2]
set_option maxRecDepth 100000 in
theorem comp32:Comp Tryz.prog 44 ir32 rs32 58:=⟨⟨_,_,62,Tryz.func44,rfl,by kernel_rfl,by kernel_rfl,rfl⟩⟩
theorem body32:HasBody Tryz.prog 44:=hasBody_of (by kernel_rfl)

def ir33:IC :=
 .seq (.reg 0 2 [o1 1 (.box 52 (.t 0)) 0,o1 2 (.mv (.k (.slice .none 0 0))) 1]) (.seq (.reg 2 1 [o1 3 (.mv (.k (.slice .none 0 0))) 2]) (.seq (.reg 3 3 [o1 9 (.load 4 .true (.t 1)) 3,o1 10 (.call 75 [.t 9]) 4,o1 4 (.mv (.t 10)) 5]) (.seq (.seq (.reg 6 1 [o1 5 (.mv (.k (.int .i64 0))) 6]) (.block 0 (.loop (.seq (.seq (.reg 7 4 [o1 11 (.mv (.t 5)) 7,o1 12 (.mv (.t 4)) 8,o1 13 (.len (.t 12)) 9,o1 14 (.bin .lss (.t 11) (.t 13)) 10]) (.cond (.t 14) .skip (.exit 0)))
 (.seq (.block 1 (.seq (.reg 11 7 [o1 17 (.mv (.t 4)) 11,o1 18 (.mv (.t 5)) 12,o1 19 (.iaddr 2 (.t 17) (.t 18)) 13,o1 20 (.faddr 0 (.t 19)) 14,o1 21 (.load 1 .false (.t 20)) 15,o1 6 (.mv (.t 21)) 16,o1 7 (.mv (.k (.int .i64 0))) 17]) (.seq (.block 2 (.loop
 (.seq (.seq (.draw 18 10 [] [] [o3 22 (.mv (.t 4)) 18,o3 23 (.mv (.t 5)) 19,o3 24 (.iaddr 2 (.t 22) (.t 23)) 20,o3 25 (.faddr 1 (.t 24)) 21,o3 26 (.load 1 .false (.t 25)) 22,o3 27 (.mv (.t 6)) 23,o3 28 (.bin .sub (.t 26) (.t 27)) 24,o3 29 (.faddr 2 (.t 1)) 25,o3 30 (.load 1 .false (.t 29)) 26,o3 31 (.bin .geq (.t 28) (.t 30)) 27]) (.cond (.t 31) .skip (.exit 2))) (.block 3 (.seq (.reg 28 10 [o1 32 (.mv (.t 3)) 28,o1 33 (.mv (.t 6)) 29,o1 34 (.mv (.t 6)) 30,o1 35 (.faddr 2 (.t 1)) 31,o1 36 (.load 1 .false (.t 35)) 32,o1 37 (.bin .add (.t 34) (.t 36)) 33,o1 38 (.bld [(0,1),(1,1)] [.int .i64 0, .int .i64 0] [(0, .t 33),(1, .t 37)]) 34,o1 39 (.bsl 142 2 1 [.int .i64 0, .int .i64 0] [(0, .t 38)]) 35,o1 40 (.app 142 2 16 (.t 32) (.t 39)) 36,o1 3 (.mv (.t 40)) 37]) (.seq (.reg 38 5 [o1 41 (.mv (.t 6)) 38,o1 42 (.faddr 2 (.t 1)) 39,o1 43 (.load 1 .false (.t 42)) 40,o1 44 (.bin .add (.t 41) (.t 43)) 41,o1 6 (.mv (.t 44)) 42]) (.reg 43 3 [o1 45 (.mv (.t 7)) 43,o1 46 (.bin .add (.t 45) (.k (.int .i64 1))) 44,o1 7 (.mv (.t 46)) 45]))))))) (.seq (.reg 46 8 [o1 47 (.mv (.t 4)) 46,o1 48 (.mv (.t 5)) 47,o1 49 (.iaddr 2 (.t 47) (.t 48)) 48,o1 50 (.faddr 1 (.t 49)) 49,o1 51 (.load 1 .false (.t 50)) 50,o1 52 (.mv (.t 6)) 51,o1 53 (.bin .sub (.t 51) (.t 52)) 52,o1 8 (.mv (.t 53)) 53]) (.seq (.reg 54 12 [o1 54 (.mv (.t 8)) 54,o1 55 (.bin .gtr (.t 54) (.k (.int .i64 0))) 55,o1 56 (.mv (.t 55)) 56, .mk (.some 57) (.mv (.t 8)) (.some (56,
 .true)) 57 .none .false [] .false, .mk (.some 58) (.faddr 3 (.t 1)) (.some (56, .true)) 58 .none .false [] .false, .mk (.some 59) (.load 1 .false (.t 58)) (.some (56, .true)) 59
 .none .false [] .false, .mk (.some 60) (.bin .geq (.t 57) (.t 59)) (.some (56, .true)) 60 .none .false [] .false, .mk (.some 61) (.mv (.t 60)) (.some (56, .true)) 61 .none .false
 [] .false, .mk (.some 62) (.mv (.t 7)) (.some (61, .false)) 62 .none .false [] .false, .mk (.some 63) (.bin .eql (.t 62) (.k (.int .i64 0))) (.some (61, .false)) 63 .none .false
 [] .false, .mk (.some 64) (.pick (.t 61) (.k (.bool .true)) (.t 63)) (.some (56, .true)) 64 .none .false [] .false,o1 65 (.pick (.t 56) (.t 64) (.k (.bool .false))) 65]) (.cond (.t 65) (.reg 66 11 [o1 66 (.mv (.t 3)) 66,o1 67 (.mv (.t 6)) 67,o1 68 (.mv (.t 4)) 68,o1 69 (.mv (.t 5)) 69,o1 70 (.iaddr 2 (.t 68) (.t 69)) 70,o1 71 (.faddr 1 (.t 70)) 71,o1 72 (.load 1 .false (.t 71)) 72,o1 73 (.bld [(0,1),(1,1)] [.int .i64 0, .int .i64 0] [(0, .t 67),(1, .t 72)]) 73,o1 74 (.bsl 142 2 1 [.int .i64 0, .int .i64 0] [(0, .t 73)]) 74,o1 75 (.app 142 2 16 (.t 66) (.t 74)) 75,o1 3 (.mv (.t 75)) 76]) (.seq (.reg 77 2 [o1 76 (.mv (.t 8)) 77,o1 77 (.bin .gtr (.t 76) (.k (.int .i64 0))) 78])
 (.cond (.t 77) (.reg 79 12 [o1 78 (.mv (.t 3)) 79,o1 79 (.mv (.t 3)) 80,o1 80 (.len (.t 79)) 81,o1 81 (.bin .sub (.t 80) (.k (.int .i64 1))) 82,o1 82 (.mv (.t 4)) 83,o1 83 (.mv (.t 5)) 84,o1 84 (.iaddr 2 (.t 82) (.t 83)) 85,o1 85 (.faddr 1 (.t 84)) 86,o1 86 (.load 1 .false (.t 85)) 87,o1 87 (.iaddr 2 (.t 78) (.t 81)) 88,o1 88 (.faddr 1 (.t 87)) 89,o2 (.store 1 (.t 88) (.t 86)) 90]) .skip)))))))) (.reg 91 3 [o1 15 (.mv (.t 5)) 91,o1 16 (.bin .add (.t 15) (.k (.int .i64 1))) 92,o1 5 (.mv (.t 16)) 93])))))) (.seq (.reg 94 2 [o1 89 (.mv (.t 3)) 94,o1 2 (.mv (.t 89)) 95])
 .ret))))
def rs33:List IRes:=[.tmp 2]
set_option maxRecDepth 100000 in
theorem comp33:Comp Tryz.prog 45 ir33 rs33 90:=⟨⟨_,_,96,Tryz.func45,rfl,by kernel_rfl,by kernel_rfl,rfl⟩⟩
theorem body33:HasBody Tryz.prog 45:=hasBody_of (by kernel_rfl)

def ir35:IC :=
 .seq (.reg 0 3 [o1 1 (.box 69 (.t 0)) 0,o1 2 (.mv (.k (.slice .none 0 0))) 1,o1 3 (.mv (.k (.int .i64 0))) 2]) (.seq (.seq (.reg 3 3 [o1 5 (.load 4 .true (.t 1)) 3,o1 6 (.call 82 [.t 5]) 4,o1 7 (.un .not (.t 6)) 5]) (.cond (.t 7) (.seq (.reg 6 2 [o1 2 (.mv (.k (.slice .none 0 0))) 6,o1 3 (.mv (.k (.int .i64 1))) 7]) .ret) .skip)) (.seq (.reg 8 3 [o1 8 (.load 4 .true (.t 1)) 8,o1 9 (.call 83 [.t 8]) 9,o1 4 (.mv (.t 9)) 10]) (.seq (.seq (.reg 11 3 [o1 10 (.mv (.t 4)) 11,o1 11 (.len (.t 10)) 12,o1 12 (.bin .gtr (.t 11) (.k (.int .i64 40))) 13]) (.cond (.t 12) (.seq (.reg 14 2 [o1 2 (.mv (.k (.slice .none 0 0))) 14,o1 3 (.mv (.k (.int .i64 3))) 15]) .ret) .skip)) (.seq (.reg 16 3 [o1 13 (.mv (.t 4)) 16,o1 2 (.mv (.t 13)) 17,
 o1 3 (.mv (.k (.int .i64 0))) 18]) .ret))))
def rs35:List IRes:=[.tmp 2, .tmp 3]
set_option maxRecDepth 100000 in
theorem comp35:Comp Tryz.prog 52 ir35 rs35 14:=⟨⟨_,_,19,Tryz.func52,rfl,by kernel_rfl,by kernel_rfl,rfl⟩⟩
theorem body35:HasBody Tryz.prog 52:=hasBody_of (by kernel_rfl)

def ir36:IC :=
 .seq (.reg 0 1 [o1 6 (.mv (.k (.bool .false))) 0]) (.seq (.reg 1 9 [o1 7 (.mv (.t 0)) 1,o1 8 (.mv (.t 1)) 2,o1 9 (.bin .geq (.t 7) (.t 8)) 3,o1 10 (.mv (.t 9)) 4,
 .mk (.some 11) (.mv (.t 0)) (.some (10, .true)) 5 .none .false [] .false, .mk (.some 12) (.mv (.t 2)) (.some (10, .true)) 6 .none .false [] .false, .mk (.some 13) (.bin .leq (.t
 11) (.t 12)) (.some (10, .true)) 7 .none .false [] .false,o1 14 (.pick (.t 10) (.t 13) (.k (.bool .false))) 8,o1 6 (.mv (.t 14)) 9]) .ret)
def rs36:List IRes:=[.tmp 6]
set_option maxRecDepth 100000 in
theorem comp36:Comp Tryz.prog 46 ir36 rs36 15:=⟨⟨_,_,10,Tryz.func46,rfl,by kernel_rfl,by kernel_rfl,rfl⟩⟩
theorem body36:HasBody Tryz.prog 46:=hasBody_of (by kernel_rfl)

def ir37:IC :=
 .seq (.reg 0 1 [o1 6 (.mv (.k (.bool .false))) 0]) (.seq (.reg 1 9 [o1 7 (.mv (.t 1)) 1,o1 8 (.mv (.t 0)) 2,o1 9 (.bin .leq (.t 7) (.t 8)) 3,o1 10 (.mv (.t 9)) 4,
 .mk (.some 11) (.mv (.t 0)) (.some (10, .true)) 5 .none .false [] .false, .mk (.some 12) (.mv (.t 2)) (.some (10, .true)) 6 .none .false [] .false, .mk (.some 13) (.bin .leq (.t
 11) (.t 12)) (.some (10, .true)) 7 .none .false [] .false,o1 14 (.pick (.t 10) (.t 13) (.k (.bool .false))) 8,o1 6 (.mv (.t 14)) 9]) .ret)
def rs37:List IRes:=[.tmp 6]
set_option maxRecDepth 100000 in
theorem comp37:Comp Tryz.prog 53 ir37 rs37 15:=⟨⟨_,_,10,Tryz.func53,rfl,by kernel_rfl,by kernel_rfl,rfl⟩⟩
theorem body37:HasBody Tryz.prog 53:=hasBody_of (by kernel_rfl)

def ir38:IC :=
 .seq (.reg 1 1 [o1 4 (.mv (.k (.int .i64 0))) 1]) (.seq (.seq (.reg 2 3 [o1 6 (.mv (.t 0)) 2,o1 7 (.len (.t 6)) 3,o1 8 (.mv (.k (.int .i64 0))) 4]) (.block 0 (.loop (.seq (.reg 5 1 [o1 9 (.bin .lss (.t 8) (.t 7)) 5]) (.seq (.cond (.t 9) .skip (.exit 0)) (.seq (.block 1 (.seq (.reg 6 2 [o1 10 (.mv (.t 8)) 6,
 o1 5 (.mv (.t 10)) 7]) (.seq (.reg 8 6 [o1 11 (.mv (.t 1)) 8,o1 12 (.mv (.t 0)) 9,o1 13 (.mv (.t 5)) 10,o1 14 (.iaddr 2 (.t 12) (.t 13)) 11,o1 15 (.load 2 .true (.t 14)) 12,o1 16 (.callv (.t 11) [.t 15]) 13]) (.cond (.t 16) (.seq (.reg 14 2 [o1 17 (.mv (.t 5)) 14,o1 4 (.mv (.t 17)) 15]) .ret) .skip)))) (.reg 16 2 [o1 18 (.bin .add (.t 8) (.k (.int .i64 1))) 16,o1 8 (.mv (.t 18)) 17]))))))) (.seq (.reg 18 1 [o1 4 (.mv (.k (.int .i64 (-1)))) 18]) .ret))
def rs38:List IRes:=[.tmp 4]
set_option maxRecDepth 100000 in
theorem comp38:CompAt Tryz.prog 54 1 ir38 rs38 19:=⟨⟨_,_,19,Tryz.func54,rfl,by kernel_rfl,by kernel_rfl,rfl⟩⟩
theorem body38:HasBody Tryz.prog 54:=hasBody_of (by kernel_rfl)

def ir39:IC :=
 .seq (.reg 1 2 [o1 2 (.box 143 (.t 0)) 1,o1 3 (.mv (.k (.bool .false))) 2]) (.seq (.reg 3 4 [o1 4 (.load 2 .true (.t 2)) 3,o1 5 (.load 1 .false (.t 1)) 4,o1 6 (.call 56 [.t 4, .t 5]) 5,o1 3 (.mv (.t 6)) 6]) .ret)
def rs39:List IRes:=[.tmp 3]
set_option maxRecDepth 100000 in
theorem comp39:CompAt Tryz.prog 55 1 ir39 rs39 7:=⟨⟨_,_,7,Tryz.func55,rfl,by kernel_rfl,by kernel_rfl,rfl⟩⟩
theorem body39:HasBody Tryz.prog 55:=hasBody_of (by kernel_rfl)

def ir40:IC :=
 .seq (.reg 0 2 [o1 2 (.box 143 (.t 0)) 0,o1 4 (.mv (.k (.bool .false))) 1]) (.seq (.reg 2 11 [o1 5 (.faddr 0 (.t 2)) 2,o1 6 (.load 1 .false (.t 5)) 3,o1 7 (.mv (.t 1)) 4,o1 8 (.bin .leq (.t 6) (.t 7)) 5,o1 9 (.mv (.t 8)) 6, .mk (.some 10) (.mv (.t 1)) (.some (9,
 .true)) 7 .none .false [] .false, .mk (.some 11) (.faddr 1 (.t 2)) (.some (9, .true)) 8 .none .false [] .false, .mk (.some 12) (.load 1 .false (.t 11)) (.some (9, .true)) 9 .none
 .false [] .false, .mk (.some 13) (.bin .lss (.t 10) (.t 12)) (.some (9, .true)) 10 .none .false [] .false,o1 14 (.pick (.t 9) (.t 13) (.k (.bool .false))) 11,o1 4 (.mv (.t 14)) 12]) .ret)
def rs40:List IRes:=[.tmp 4]
set_option maxRecDepth 100000 in
theorem comp40:Comp Tryz.prog 56 ir40 rs40 15:=⟨⟨_,_,13,Tryz.func56,rfl,by kernel_rfl,by kernel_rfl,rfl⟩⟩
theorem body40:HasBody Tryz.prog 56:=hasBody_of (by kernel_rfl)

def ir41:IC :=
 .seq (.reg 0 3 [o1 2 (.box 52 (.t 0)) 0,o1 3 (.box 55 (.t 1)) 1,o1 4 (.mv (.k (.bool .false))) 2]) (.seq (.reg 3 11 [o1 5 (.faddr 1 (.t 2)) 3,o1 6 (.load 1 .false (.t 5)) 4,o1 7 (.len (.t 6)) 5,o1 8 (.bin .leq (.t 7) (.k (.int .i64 60))) 6,o1 9 (.mv (.t 8)) 7, .mk (.some 10) (.faddr 0 (.t 3)) (.some (9, .true)) 8 .none .false [] .false, .mk (.some 11) (.load 1 .false (.t 10)) (.some (9, .true)) 9 .none
 .false [] .false, .mk (.some 12) (.len (.t 11)) (.some (9, .true)) 10 .none .false [] .false, .mk (.some 13) (.bin .leq (.t 12) (.k (.int .i64 8))) (.some (9, .true)) 11 .none
 .false [] .false,o1 14 (.pick (.t 9) (.t 13) (.k (.bool .false))) 12,o1 4 (.mv (.t 14)) 13]) .ret)
def rs41:List IRes:=[.tmp 4]
set_option maxRecDepth 100000 in
theorem comp41:Comp Tryz.prog 15 ir41 rs41 15:=⟨⟨_,_,14,Tryz.func15,rfl,by kernel_rfl,by kernel_rfl,rfl⟩⟩
theorem body41:HasBody Tryz.prog 15:=hasBody_of (by kernel_rfl)

def ir43:IC :=
 .seq (.reg 0 4 [o1 2 (.box 69 (.t 0)) 0,o1 3 (.box 73 (.t 1)) 1,o1 4 (.mv (.k (.pointer .none))) 2,o1 5 (.mv (.k (.int .i64 0))) 3]) (.seq (.reg 4 7 [o1 9 (.load 4 .true (.t 2)) 4,o1 10 (.call 52 [.t 9]) 5,o1 8 (.mv (.t 10)) 6,o1 11 (.ext (.t 8) 0) 7,o1 12 (.ext (.t 8) 1) 8,o1 6 (.mv (.t 11)) 9,o1 7 (.mv (.t 12)) 10]) (.seq (.block 0 (.seq (.reg 11 3 [o1 14 (.mv (.t 7)) 11,o1 15 (.bin .neq (.t 14) (.k (.int .i64 0))) 12,o1 13 (.mv (.t 15)) 13]) (.cond (.t 13) (.seq (.reg 14 3 [o1 16 (.mv (.t 7)) 14,o1 4 (.mv (.k (.pointer .none))) 15,o1 5 (.mv (.t 16)) 16]) .ret) (.seq (.reg
 17 4 [o1 18 (.load 3 .true (.t 3)) 17,o1 19 (.call 76 [.t 18]) 18,o1 20 (.un .not (.t 19)) 19,o1 17 (.mv (.t 20)) 20]) (.cond (.t 17) (.seq (.reg 21 2 [o1 4 (.mv (.k (.pointer .none))) 21,o1 5 (.mv (.k (.int .i64 1))) 22]) .ret) .skip))))) (.seq (.reg 23 7 [o1 21 (.load 4 .true (.t 2)) 23,o1 22 (.load 3 .true (.t 3)) 24,o1 23 (.mv (.t 6)) 25,o1 24 (.bld [(0,4),(4,3),(7,1)] [.int .i64 0, .slice .none 0 0, .int .i64 0, .int .i64 0, .slice .none 0 0, .int .i64 0, .int .i64 0, .slice .none 0 0] [(0, .t 21),(1, .t 22),(2, .t 23)]) 26,o1 25 (.box 140 (.t 24)) 27,o1 4 (.mv (.t 25)) 28,o1 5 (.mv (.k (.int .i64 0))) 29]) .ret)))
def rs43:List IRes:=[.tmp 4, .tmp 5]
set_option maxRecDepth 100000 in
theorem comp43:Comp Tryz.prog 50 ir43 rs43 26:=⟨⟨_,_,30,Tryz.func50,rfl,by kernel_rfl,by kernel_rfl,rfl⟩⟩
theorem body43:HasBody Tryz.prog 50:=hasBody_of (by kernel_rfl)

def ir44:IC :=
 .seq (.reg 0 4 [o1 3 (.box 134 (.t 0)) 0,o1 5 (.box 3 (.t 2)) 1,o1 6 (.mv (.k (.slice .none 0 0))) 2,o1 7 (.alloc 3 [.int .i64 0]) 3]) (.seq (.reg 4 3 [o1 11 .mkm 4,
 o1 8 (.alloc 192 [.map .none]) 5,o2 (.store 1 (.t 8) (.t 11)) 6]) (.seq (.reg 7 4 [o1 12 (.load 1 .false (.t 3)) 7,o1 13 (.mkf 77 [.t 12] []) 8,o1 9 (.alloc 193 [.nilFunc]) 9,o2 (.store 1 (.t 9) (.t 13)) 10]) (.seq (.reg 11 1 [o1 10 (.alloc 194 [.nilFunc]) 11]) (.seq
 (.reg 12 2 [o1 14 (.mkf 78 [] [.t 7, .t 3, .t 8, .t 5, .t 9, .t 10]) 12,o2 (.store 1 (.t 10) (.t 14)) 13]) (.seq (.draw 14 7 [1] [] [o3 15 (.load 1 .false (.t 10)) 14,o3 16 (.mv (.t 1)) 15,
 o3 17 (.call 81 [.t 16]) 16,o3 18 (.mv (.t 1)) 17, .mk (.some 19) (.call 80 [.t 18]) .none 18
 (.some [16]) .false [] .false, .mk (.some 20) (.callv (.t 15) [.t 17, .t 19]) .none 19 (.some [18,16]) .false [] .false, .mk (.some 6) (.mv (.t 20)) .none 20 (.some [16,18,19])
 .true [] .false]) (.seq (.draw 21 4 [] [] [o3 21 (.mv (.t 6)) 21,o3 22 (.load 1 .false (.t 7)) 22,o3 6 (.mv (.t 21)) 23,o4 (.store 1 (.t 7) (.t 22)) 24]) .ret))))))
def rs44:List IRes:=[.tmp 6, .cell 7 1 .false]
set_option maxRecDepth 100000 in
theorem comp44:Comp Tryz.prog 51 ir44 rs44 23:=⟨⟨_,_,25,Tryz.func51,rfl,by kernel_rfl,by kernel_rfl,rfl⟩⟩
theorem body44:HasBody Tryz.prog 51:=hasBody_of (by kernel_rfl)

def ir47:IC :=
 .seq (.reg 0 3 [o1 2 (.box 143 (.t 0)) 0,o1 3 (.box 272 (.t 1)) 1,o1 4 (.mv (.k (.int .i64 0))) 2]) (.seq (.draw 3 12 [2] [] [o3 5 (.faddr 1 (.t 2)) 3,o3 6 (.load 1 .false (.t 5)) 4,o3 7 (.load 2 .true (.t 2)) 5,o3 8 (.call 108 [.t 7]) 6,o3 9 (.faddr 0 (.t 3)) 7,o3 10 (.load 1 .false (.t 9)) 8, .mk (.some 11) (.bin .mul (.t 8) (.t
 10)) .none 9 (.some [6]) .true [] .false,o3 12 (.faddr 1 (.t 3)) 10,o3 13 (.load 1 .false (.t 12)) 11, .mk (.some 14) (.bslp 3 1 3 [.int .i64 0, .int .i64 0, .int .i64 0] [(0, .t 6),(1, .t 11),(2, .t 13)]) .none 12 (.some [6]) .false [] .false, .mk (.some 15) (.call
 207 [.t 14]) .none 13 (.some [6,12]) .false [] .false, .mk (.some 4) (.mv (.t 15)) .none 14 (.some [12,6,13]) .true [] .false]) .ret)
def rs47:List IRes:=[.tmp 4]
set_option maxRecDepth 100000 in
theorem comp47:Comp Tryz.prog 169 ir47 rs47 16:=⟨⟨_,_,15,Tryz.func169,rfl,by kernel_rfl,by kernel_rfl,rfl⟩⟩
theorem body47:HasBody Tryz.prog 169:=hasBody_of (by kernel_rfl)

def ir48:IC :=
 .seq (.reg 0 1 [o1 6 (.mv (.k (.int .i64 0))) 0]) (.seq (.draw 1 25 [0] [] [o3 7 (.mv (.t 0)) 1,o3 8 (.nilc (.t 7)) 2,o3 9 (.faddr 7 (.t 8)) 3,o3 10 (.load 1 .false (.t 9)) 4,o3 11 (.mv (.t 1)) 5,o3 12 (.iaddr 2 (.t 10) (.t 11)) 6,o3 13 (.load 2 .true (.t 12)) 7,o3 14 (.mv (.t 0)) 8,o3 15 (.nilc (.t 14)) 9,o3 16 (.faddr 4 (.t 15)) 10,o3 17 (.faddr 0 (.t 16)) 11,o3 18 (.load 1 .false (.t 17)) 12,o3 19 (.mv (.t 2)) 13,o3 20 (.iaddr 3 (.t 18) (.t 19)) 14,o3 21 (.faddr 0 (.t 20)) 15,o3 22 (.faddr 1 (.t 21)) 16,
 o3 23 (.load 1 .false (.t 22)) 17,o3 24 (.mv (.t 0)) 18,o3 25 (.nilc (.t 24)) 19,o3 26 (.faddr 4 (.t 25)) 20,o3 27 (.faddr 2 (.t 26)) 21,o3 28 (.load 1 .false (.t 27)) 22,o3 29 (.bld [(0,1),(1,1)] [.int .i64 0, .int .i64 0] [(0, .t 23),(1, .t 28)]) 23,o3 30 (.call 169 [.t 13, .t 29]) 24, .mk (.some 6) (.mv (.t 30)) .none 25 (.some [24]) .true [] .false]) .ret)
def rs48:List IRes:=[.tmp 6]
set_option maxRecDepth 100000 in
theorem comp48:Comp Tryz.prog 107 ir48 rs48 31:=⟨⟨_,_,26,Tryz.func107,rfl,by kernel_rfl,by kernel_rfl,rfl⟩⟩
theorem body48:HasBody Tryz.prog 107:=hasBody_of (by kernel_rfl)

def ir49:IC :=
 .seq (.reg 0 2 [o1 1 (.box 73 (.t 0)) 0,o1 2 (.mv (.k (.bool .false))) 1]) (.seq (.reg 2 20 [o1 3 (.faddr 0 (.t 1)) 2,o1 4 (.load 1 .false (.t 3)) 3,o1 5 (.len (.t 4)) 4,o1 6 (.call 53 [.t 5, .k (.int .i64 1), .k (.int .i64 5)]) 5,o1 7 (.mv (.t 6)) 6, .mk (.some
 8) (.faddr 0 (.t 1)) (.some (7, .true)) 7 .none .false [] .false, .mk (.some 9) (.load 1 .false (.t 8)) (.some (7, .true)) 8 .none .false [] .false, .mk (.some 10) (.call 105 [.t
 9, .f 106]) (.some (7, .true)) 9 .none .false [] .false,o1 11 (.pick (.t 7) (.t 10) (.k (.bool .false))) 10,o1 12 (.mv (.t 11)) 11, .mk (.some 13) (.faddr 1 (.t 1)) (.some (12, .true)) 12 .none .false [] .false, .mk (.some 14) (.load 1 .false (.t 13)) (.some (12, .true)) 13
 .none .false [] .false, .mk (.some 15) (.call 53 [.t 14, .k (.int .i64 0), .k (.int .i64 36000)]) (.some (12, .true)) 14 .none .false [] .false,o1 16 (.pick (.t 12) (.t 15) (.k (.bool .false))) 15,o1 17 (.mv (.t 16)) 16, .mk (.some 18) (.faddr 2 (.t 1)) (.some (17, .true)) 17
 .none .false [] .false, .mk (.some 19) (.load 1 .false (.t 18)) (.some (17, .true)) 18 .none .false [] .false, .mk (.some 20) (.call 53 [.t 19, .k (.int .i64 0), .k (.int .i64
 36000)]) (.some (17, .true)) 19 .none .false [] .false,o1 21 (.pick (.t 17) (.t 20) (.k (.bool .false))) 20,o1 2 (.mv (.t 21)) 21]) .ret)
def rs49:List IRes:=[.tmp 2]
set_option maxRecDepth 100000 in
theorem comp49:Comp Tryz.prog 76 ir49 rs49 22:=⟨⟨_,_,22,Tryz.func76,rfl,by kernel_rfl,by kernel_rfl,rfl⟩⟩
theorem body49:HasBody Tryz.prog 76:=hasBody_of (by kernel_rfl)

def ir50:IC :=
 .seq (.reg 0 2 [o1 1 (.box 52 (.t 0)) 0,o1 2 (.mv (.k (.slice .none 0 0))) 1]) (.seq (.reg 2 1 [o1 3 (.mv (.k (.slice .none 0 0))) 2]) (.seq (.reg 3 1 [o1 4 (.mv (.k (.int .i64 0))) 3]) (.seq (.seq (.reg
 4 1 [o1 5 (.mv (.k (.int .i64 0))) 4]) (.block 0 (.loop (.seq (.seq (.reg 5 5 [o1 6 (.mv (.t 5)) 5,o1 7 (.faddr 1 (.t 1)) 6,o1 8 (.load 1 .false (.t 7)) 7,o1 9 (.len (.t 8)) 8,o1 10 (.bin .lss (.t 6) (.t 9)) 9]) (.cond (.t 10) .skip (.exit 0))) (.seq (.block 1 (.seq (.seq (.reg 10 8 [o1 13 (.faddr 1 (.t 1)) 10,o1 14 (.load 1 .false (.t 13)) 11,o1 15 (.mv (.t 5)) 12,o1 16 (.iaddr 2 (.t 14) (.t 15)) 13,o1 17 (.faddr 0 (.t 16)) 14,o1 18 (.load 1 .false (.t 17)) 15,o1 19 (.mv (.t 4)) 16,o1 20 (.bin .gtr (.t 18) (.t 19)) 17]) (.cond (.t 20) (.reg 18 12 [o1 21 (.mv (.t 3)) 18,o1 22 (.mv (.t 4)) 19,o1 23 (.faddr 1 (.t 1)) 20,o1 24 (.load 1 .false (.t 23)) 21,o1 25 (.mv (.t 5)) 22,o1 26 (.iaddr 2 (.t 24) (.t 25)) 23,o1 27 (.faddr 0 (.t 26)) 24,o1 28 (.load 1 .false (.t 27)) 25,o1 29 (.bld [(0,1),(1,1)] [.int .i64 0, .int .i64 0] [(0, .t 22),(1, .t 28)]) 26,o1 30 (.bsl 142 2 1 [.int .i64 0, .int .i64 0] [(0, .t 29)]) 27,o1 31 (.app 142 2 16 (.t 21) (.t 30)) 28,
 o1 3 (.mv (.t 31)) 29]) .skip)) (.reg 30 7 [o1 32 (.faddr 1 (.t 1)) 30,o1 33 (.load 1 .false (.t 32)) 31,o1 34 (.mv (.t 5)) 32,o1 35 (.iaddr 2 (.t 33) (.t 34)) 33,
 o1 36 (.faddr 1 (.t 35)) 34,o1 37 (.load 1 .false (.t 36)) 35,o1 4 (.mv (.t 37)) 36]))) (.reg 37 3 [o1 11 (.mv (.t 5)) 37,o1 12 (.bin .add (.t 11) (.k (.int .i64 1))) 38,o1 5 (.mv (.t 12)) 39])))))) (.seq (.seq (.reg 40 4 [o1 38 (.mv (.t 4)) 40,o1 39 (.faddr 0 (.t 1)) 41,o1 40 (.load 1 .false (.t 39)) 42,o1 41 (.bin .lss (.t 38) (.t 40)) 43]) (.cond (.t 41) (.reg 44 8 [o1 42 (.mv (.t 3)) 44,o1 43 (.mv (.t 4)) 45,o1 44 (.faddr 0 (.t 1)) 46,o1 45 (.load 1 .false (.t 44)) 47,o1 46 (.bld [(0,1),(1,1)] [.int .i64 0, .int .i64 0] [(0, .t 43),(1, .t 45)]) 48,o1 47 (.bsl 142 2 1 [.int .i64 0, .int .i64 0] [(0, .t 46)]) 49,o1 48 (.app 142 2 16 (.t 42) (.t 47)) 50,o1 3 (.mv (.t 48)) 51]) .skip)) (.seq (.reg 52 2 [o1 49 (.mv (.t 3)) 52,o1 2 (.mv (.t 49)) 53]) .ret)))))
def rs50:List IRes:=[.tmp 2]
set_option maxRecDepth 100000 in
theorem comp50:Comp Tryz.prog 75 ir50 rs50 50:=⟨⟨_,_,54,Tryz.func75,rfl,by kernel_rfl,by kernel_rfl,rfl⟩⟩
theorem body50:HasBody Tryz.prog 75:=hasBody_of (by kernel_rfl)

def ir51:IC :=
 .seq (.reg 0 2 [o1 1 (.box 69 (.t 0)) 0,o1 2 (.mv (.k (.bool .false))) 1]) (.seq (.reg 2 2 [o1 3 (.mv (.k (.int .i64 (-1)))) 2,o1 4 (.mv (.k (.bool .true))) 3]) (.seq .skip (.seq (.seq (.reg 4 4 [o1 7 (.faddr 1 (.t 1)) 4,o1 8 (.load 1 .false (.t 7)) 5,o1 9 (.len (.t 8)) 6,o1 10 (.mv (.k (.int .i64 0))) 7]) (.block 0 (.loop (.seq (.reg 8 1 [o1 11 (.bin .lss (.t 10) (.t 9)) 8]) (.seq (.cond (.t 11) .skip (.exit 0)) (.seq (.block 1 (.seq (.reg 9 4 [o1 12 (.iaddr 2 (.t 8) (.t 10)) 9,o1 13 (.load 2 .true (.t 12)) 10,o1 6 (.alloc 143 [.int .i64 0, .int .i64 0]) 11,o2 (.store 2 (.t 6) (.t 13)) 12]) (.seq (.seq (.reg 13 16 [o1 14 (.faddr 0 (.t 6)) 13,o1 15 (.load 1 .false (.t 14)) 14,o1 16 (.mv (.t 3)) 15,o1 17 (.bin .leq (.t 15) (.t 16)) 16,o1 18 (.mv (.t 17)) 17, .mk (.some 19) (.load 2 .true (.t 6)) (.some (18, .false)) 18 .none .false [] .false, .mk (.some 20) (.call 108 [.t 19]) (.some (18, .false))
 19 .none .false [] .false, .mk (.some 21) (.bin .leq (.t 20) (.k (.int .i64 0))) (.some (18, .false)) 20 .none .false [] .false,o1 22 (.pick (.t 18) (.k (.bool .true)) (.t 21)) 21,o1 23 (.mv (.t 22)) 22, .mk (.some 24) (.faddr 1 (.t 6)) (.some (23, .false)) 23 .none .false []
 .false, .mk (.some 25) (.load 1 .false (.t 24)) (.some (23, .false)) 24 .none .false [] .false, .mk (.some 26) (.faddr 0 (.t 1)) (.some (23, .false)) 25 .none .false [] .false,
 .mk (.some 27) (.load 1 .false (.t 26)) (.some (23, .false)) 26 .none .false [] .false, .mk (.some 28) (.bin .gtr (.t 25) (.t 27)) (.some (23, .false)) 27 .none .false [] .false,
 o1 29 (.pick (.t 23) (.k (.bool .true)) (.t 28)) 28]) (.cond (.t 29) (.seq (.reg 29 1 [o1 4 (.mv (.k (.bool .false))) 29]) (.exit 0)) .skip)) (.reg 30 3 [o1 30 (.faddr 1 (.t 6)) 30,o1 31 (.load 1 .false (.t 30)) 31,o1 3 (.mv (.t 31)) 32])))) (.reg 33 2 [o1 32 (.bin .add (.t 10) (.k (.int .i64 1))) 33,o1 10 (.mv (.t 32)) 34]))))))) (.seq (.reg 35 19 [o1 33 (.mv (.t 4)) 35,o1 34 (.mv (.t 33)) 36, .mk (.some 35) (.faddr 0 (.t 1)) (.some (34, .true)) 37 .none .false [] .false, .mk (.some 36) (.load 1 .false (.t 35)) (.some (34, .true)) 38 .none
 .false [] .false, .mk (.some 37) (.call 53 [.t 36, .k (.int .i64 1), .k (.int .i64 36000)]) (.some (34, .true)) 39 .none .false [] .false,o1 38 (.pick (.t 34) (.t 37) (.k (.bool .false))) 40,o1 39 (.mv (.t 38)) 41, .mk (.some 40) (.faddr 2 (.t 1)) (.some (39, .true)) 42 .none
 .false [] .false, .mk (.some 41) (.load 1 .false (.t 40)) (.some (39, .true)) 43 .none .false [] .false, .mk (.some 42) (.call 53 [.t 41, .k (.int .i64 1), .k (.int .i64 1200)])
 (.some (39, .true)) 44 .none .false [] .false,o1 43 (.pick (.t 39) (.t 42) (.k (.bool .false))) 45,o1 44 (.mv (.t 43)) 46, .mk (.some 45) (.faddr 3 (.t 1)) (.some (44, .true)) 47 .none .false [] .false, .mk (.some 46) (.load 1 .false (.t 45)) (.some (44, .true)) 48 .none .false
 [] .false, .mk (.some 47) (.faddr 2 (.t 1)) (.some (44, .true)) 49 .none .false [] .false, .mk (.some 48) (.load 1 .false (.t 47)) (.some (44, .true)) 50 .none .false [] .false,
 .mk (.some 49) (.call 53 [.t 46, .k (.int .i64 1), .t 48]) (.some (44, .true)) 51 .none .false [] .false,o1 50 (.pick (.t 44) (.t 49) (.k (.bool .false))) 52,o1 2 (.mv (.t 50)) 53]) .ret))))
def rs51:List IRes:=[.tmp 2]
set_option maxRecDepth 100000 in
theorem comp51:Comp Tryz.prog 82 ir51 rs51 51:=⟨⟨_,_,54,Tryz.func82,rfl,by kernel_rfl,by kernel_rfl,rfl⟩⟩
theorem body51:HasBody Tryz.prog 82:=hasBody_of (by kernel_rfl)

def ir52:IC :=
 .seq (.reg 0 2 [o1 1 (.box 69 (.t 0)) 0,o1 2 (.alloc 67 [.slice .none 0 0]) 1]) (.seq (.seq (.reg 2 2
 [o1 7 (.load 4 .true (.t 1)) 2,o1 8 (.call 109 [.t 7]) 3]) (.block 0 (.range (.t 8) [9] (.reg 4 2 [o1 3 (.alloc 143 [.int .i64 0, .int .i64 0]) 4,o2 (.store 2 (.t 3) (.t 9)) 5]) (.block 1 (.seq (.draw 6 6
 [3] [] [o3 10 (.load 2 .true (.t 3)) 6,o3 11 (.call 108 [.t 10]) 7,o3 12 (.faddr 2 (.t 1)) 8,o3 13 (.load 1 .false (.t 12)) 9, .mk (.some 14) (.bin .quo (.t 11) (.t 13)) .none 10 (.some
 [7]) .true [] .false, .mk (.some 4) (.mv (.t 14)) .none 11 (.some [7]) .true [] .false]) (.seq (.seq (.reg 12 2 [o1 15 (.mv (.t 4)) 12,o1 16 (.mv (.k (.int .i64 0))) 13]) (.block 2 (.loop (.seq (.reg 14 1 [o1 17 (.bin .lss (.t 16) (.t 15)) 14]) (.seq (.cond (.t 17) .skip (.exit 2)) (.seq (.block 3 (.seq (.reg 15 2 [o1 18 (.mv (.t 16)) 15,o1 5 (.mv (.t 18)) 16]) (.reg 17 20 [o1 19 (.load 1 .false (.t 2)) 17,o1 20 (.faddr 0 (.t 3)) 18,o1 21 (.load 1 .false (.t 20)) 19,o1 22 (.mv (.t 5)) 20,o1 23 (.faddr 2 (.t 1)) 21,o1 24 (.load 1 .false (.t 23)) 22,o1 25 (.bin .mul (.t 22) (.t 24)) 23,o1 26 (.bin .add (.t 21) (.t 25)) 24,o1 27 (.faddr 0 (.t 3)) 25,o1 28 (.load 1 .false (.t 27)) 26,o1 29 (.mv (.t 5)) 27,o1 30 (.bin .add (.t 29) (.k (.int .i64 1))) 28,o1 31 (.faddr 2 (.t 1)) 29,o1 32 (.load 1 .false (.t 31)) 30,o1 33 (.bin .mul (.t 30) (.t 32)) 31,o1 34 (.bin .add (.t 28) (.t 33)) 32,o1 35 (.bld [(0,1),(1,1)] [.int .i64 0, .int .i64 0] [(0, .t 26),(1, .t 34)]) 33,o1 36 (.bsl 143 2 1 [.int .i64 0, .int .i64 0] [(0, .t 35)]) 34,o1 37 (.app 143 2 16 (.t 19) (.t 36)) 35,o2 (.store 1 (.t 2) (.t 37)) 36]))) (.reg 37 2 [o1 38 (.bin .add (.t 16) (.k (.int .i64 1))) 37,o1 16 (.mv (.t 38)) 38]))))))) (.seq (.reg 39 12 [o1 39 (.faddr 0 (.t 3)) 39,o1 40 (.load 1 .false (.t 39)) 40,o1 41 (.mv (.t 4)) 41,o1 42 (.faddr 2 (.t 1)) 42,o1 43 (.load 1 .false (.t 42)) 43,o1 44 (.bin .mul (.t 41) (.t 43)) 44,o1 45 (.bin .add (.t 40) (.t 44)) 45,o1 46 (.faddr 1 (.t 3)) 46,o1 47 (.load 1 .false (.t 46)) 47,o1 48 (.bld [(0,1),(1,1)] [.int .i64 0, .int .i64 0] [(0, .t 45),(1, .t 47)]) 48,o1 6 (.alloc 143 [.int .i64 0, .int .i64 0]) 49,o2 (.store 2 (.t 6) (.t 48)) 50]) (.block 4
 (.seq (.reg 51 4 [o1 58 (.load 2 .true (.t 6)) 51,o1 59 (.call 108 [.t 58]) 52,o1 60 (.bin .eql (.t 59) (.k (.int .i64 0))) 53,o1 57 (.mv (.t 60)) 54]) (.cond (.t 57) .skip (.seq (.draw 55 10 [6] []
 [o3 62 (.load 2 .true (.t 6)) 55,o3 63 (.call 108 [.t 62]) 56,o3 64 (.faddr 3 (.t 1)) 57,o3 65 (.load 1 .false (.t 64)) 58, .mk (.some 66) (.bin .geq (.t 63) (.t 65)) .none 59 (.some
 [56]) .true [] .false, .mk (.some 67) (.mv (.t 66)) .none 60 (.some [56]) .true [] .false, .mk (.some 68) (.mv (.t 4)) (.some (67, .false)) 61 (.some [56]) .true [] .false, .mk
 (.some 69) (.bin .eql (.t 68) (.k (.int .i64 0))) (.some (67, .false)) 62 (.some [56]) .true [] .false, .mk (.some 70) (.pick (.t 67) (.k (.bool .true)) (.t 69)) .none 63 (.some
 [56]) .true [] .false, .mk (.some 61) (.mv (.t 70)) .none 64 (.some [56]) .true [] .false]) (.cond (.t 61) (.reg 65 5 [o1 71 (.load 1 .false (.t 2)) 65,o1 72 (.load 2 .true (.t 6)) 66,o1 73 (.bsl 143 2 1 [.int .i64 0, .int .i64 0] [(0, .t 72)]) 67,o1 74 (.app 143 2 16 (.t 71) (.t 73)) 68,o2 (.store 1 (.t 2) (.t 74)) 69]) (.reg 70 9 [o1 49 (.load 1 .false (.t 2)) 70,o1 50 (.load 1 .false (.t 2)) 71,o1 51 (.len (.t 50)) 72,o1 52 (.bin .sub (.t 51) (.k (.int .i64 1))) 73,o1 53 (.faddr 1 (.t 3)) 74,
 o1 54 (.load 1 .false (.t 53)) 75,o1 55 (.iaddr 2 (.t 49) (.t 52)) 76,o1 56 (.faddr 1 (.t 55)) 77,o2 (.store 1 (.t 56) (.t 54)) 78]))))))))))))) (.seq (.reg 79 2 [o1 75 (.load 1 .false (.t 2)) 79,o2 (.store 1 (.t 2) (.t 75)) 80]) .ret))
def rs52:List IRes:=[.cell 2 1 .false]
set_option maxRecDepth 100000 in
theorem comp52:Comp Tryz.prog 83 ir52 rs52 76:=⟨⟨_,_,81,Tryz.func83,rfl,by kernel_rfl,by kernel_rfl,rfl⟩⟩
theorem body52:HasBody Tryz.prog 83:=hasBody_of (by kernel_rfl)

def ir53:IC :=
 .seq (.reg 0 2 [o1 4 (.box 198 (.t 1)) 0,o1 6 (.mv (.k (.bool .false))) 1]) (.seq (.seq (.draw 2 21 [2,
 4,0] [] [o3 8 (.mv (.t 0)) 2,o3 9 (.faddr 0 (.t 4)) 3,o3 10 (.load 1 .false (.t 9)) 4,o3 11 (.mv (.t 2)) 5,o3 12 (.call 107 [.t 8, .t 10, .t 11]) 6,o3 13 (.mv (.t 0)) 7,o3 14 (.nilc (.t 13)) 8,o3 15 (.faddr 7 (.t 14)) 9,o3 16 (.load 1 .false (.t 15)) 10,o3 17 (.faddr 0 (.t 4)) 11,
 o3 18 (.load 1 .false (.t 17)) 12,o3 19 (.iaddr 2 (.t 16) (.t 18)) 13,o3 20 (.faddr 1 (.t 19)) 14,o3 21 (.load 1 .false (.t 20)) 15,o3 22 (.mv (.t 0)) 16,o3 23 (.nilc (.t 22)) 17,o3 24 (.faddr 4 (.t 23)) 18,o3 25 (.faddr 1 (.t 24)) 19,o3 26 (.load 1 .false (.t 25)) 20,o3 27 (.bin .add (.t 21) (.t 26)) 21, .mk (.some 28) (.bin .gtr (.t 12) (.t 27)) .none 22 (.some [6]) .true [] .false]) (.cond (.t 28) (.seq (.reg 23 1 [o1 6 (.mv (.k (.bool .false))) 23]) .ret) .skip)) (.seq (.reg 24 5 [o1 29 (.mv (.t 2)) 24,o1 30 (.faddr 1 (.t 4)) 25,o1 31 (.aaddr 1 5 (.t 30) (.t 29)) 26,o1 32 (.load 1 .false (.t 31)) 27,o1 7 (.mv (.t 32)) 28]) (.seq (.draw 29 29 [2,7,0] [] [o3 33 (.mv (.t 7)) 29,o3 34 (.bin .eql (.t 33) (.k (.int .i64 (-1)))) 30,o3 35 (.mv (.t 34)) 31, .mk (.some 36) (.mv (.t 0)) (.some (35, .false))
 32 (.some []) .true [] .false, .mk (.some 37) (.mv (.t 7)) (.some (35, .false)) 33 (.some []) .true [] .false, .mk (.some 38) (.mv (.t 2)) (.some (35, .false)) 34 (.some []) .true
 [] .false, .mk (.some 39) (.call 107 [.t 36, .t 37, .t 38]) (.some (35, .false)) 35 (.some []) .true [] .false, .mk (.some 40) (.mv (.t 0)) (.some (35, .false)) 36 (.some [])
 .true [] .false, .mk (.some 41) (.nilc (.t 40)) (.some (35, .false)) 37 (.some []) .true [] .false, .mk (.some 42) (.faddr 4 (.t 41)) (.some (35, .false)) 38 (.some []) .true []
 .false, .mk (.some 43) (.faddr 0 (.t 42)) (.some (35, .false)) 39 (.some []) .true [] .false, .mk (.some 44) (.load 1 .false (.t 43)) (.some (35, .false)) 40 (.some []) .true []
 .false, .mk (.some 45) (.mv (.t 2)) (.some (35, .false)) 41 (.some []) .true [] .false, .mk (.some 46) (.iaddr 3 (.t 44) (.t 45)) (.some (35, .false)) 42 (.some []) .true []
 .false, .mk (.some 47) (.faddr 2 (.t 46)) (.some (35, .false)) 43 (.some []) .true [] .false, .mk (.some 48) (.load 1 .false (.t 47)) (.some (35, .false)) 44 (.some []) .true []
 .false, .mk (.some 49) (.bin .add (.t 39) (.t 48)) (.some (35, .false)) 45 (.some [35]) .true [] .false, .mk (.some 50) (.mv (.t 0)) (.some (35, .false)) 46 (.some []) .true []
 .false, .mk (.some 51) (.nilc (.t 50)) (.some (35, .false)) 47 (.some []) .true [] .false, .mk (.some 52) (.faddr 7 (.t 51)) (.some (35, .false)) 48 (.some []) .true [] .false,
 .mk (.some 53) (.load 1 .false (.t 52)) (.some (35, .false)) 49 (.some []) .true [] .false, .mk (.some 54) (.faddr 0 (.t 4)) (.some (35, .false)) 50 (.some []) .true [] .false,
 .mk (.some 55) (.load 1 .false (.t 54)) (.some (35, .false)) 51 (.some []) .true [] .false, .mk (.some 56) (.iaddr 2 (.t 53) (.t 55)) (.some (35, .false)) 52 (.some []) .true []
 .false, .mk (.some 57) (.faddr 0 (.t 56)) (.some (35, .false)) 53 (.some []) .true [] .false, .mk (.some 58) (.load 1 .false (.t 57)) (.some (35, .false)) 54 (.some []) .true []
 .false, .mk (.some 59) (.bin .leq (.t 49) (.t 58)) (.some (35, .false)) 55 (.some [35]) .true [] .false, .mk (.some 60) (.pick (.t 35) (.k (.bool .true)) (.t 59)) .none 56 (.some
 [35]) .true [] .false, .mk (.some 6) (.mv (.t 60)) .none 57 (.some [35]) .true [] .false]) .ret)))
def rs53:List IRes:=[.tmp 6]
set_option maxRecDepth 100000 in
theorem comp53:Comp Tryz.prog 77 ir53 rs53 61:=⟨⟨_,_,58,Tryz.func77,rfl,by kernel_rfl,by kernel_rfl,rfl⟩⟩
theorem body53:HasBody Tryz.prog 77:=hasBody_of (by kernel_rfl)

def ir54:IC :=
 .seq (.reg 7 2 [o1 8 (.box 198 (.t 0)) 7,o1 10 (.mv (.k (.slice .none 0 0))) 8]) (.seq (.reg 9 5 [o1 13 (.load 1 .false (.t 2)) 9,o1 14 (.faddr 0 (.t 8)) 10,o1 15 (.load 1 .false (.t 14)) 11,o1 16 (.mm .true (.t 13) (.t 15)) 12,o2 (.store 1 (.t 2) (.t 16)) 13]) (.seq
 (.seq (.draw 14 13 [] [] [o3 17 (.faddr 0 (.t 8)) 14,o3 18 (.load 1 .false (.t 17)) 15,o3 19 (.load 1 .false (.t 3)) 16,o3 20 (.nilc (.t 19)) 17,o3 21 (.faddr 7 (.t 20)) 18,o3 22 (.load 1 .false (.t 21)) 19,o3 23 (.len (.t 22)) 20,o3 24 (.bin .eql (.t 18) (.t 23)) 21,o3 25 (.mv (.t 24)) 22, .mk (.some 26) (.load 1 .false (.t
 4)) (.some (25, .false)) 23 (.some []) .true [] .false, .mk (.some 27) (.load 6 .true (.t 8)) (.some (25, .false)) 24 (.some []) .true [] .false, .mk (.some 28) (.lkp 198 (.bool
 .false) .false (.t 26) (.t 27)) (.some (25, .false)) 25 (.some []) .true [] .false,o3 29 (.pick (.t 25) (.k (.bool .true)) (.t 28)) 26])
 (.cond (.t 29) (.seq (.reg 27 7 [o1 30 (.mv (.t 1)) 27,o1 31 (.mv (.t 1)) 28,o1 32 (.len (.t 31)) 29,o1 33 (.mv (.t 1)) 30,o1 34 (.len (.t 33)) 31,o1 35 (.slc 1 (.t 30) .none (.some (.t 32)) (.some (.t 34))) 32,o1 10 (.mv (.t 35)) 33]) .ret) .skip)) (.seq (.seq
 (.reg 34 7 [o1 36 (.load 1 .false (.t 3)) 34,o1 37 (.nilc (.t 36)) 35,o1 38 (.faddr 4 (.t 37)) 36,o1 39 (.faddr 0 (.t 38)) 37,o1 40 (.load 1 .false (.t 39)) 38,
 o1 41 (.len (.t 40)) 39,o1 42 (.mv (.k (.int .i64 0))) 40]) (.block 0 (.loop (.seq (.reg 41 1 [o1 43 (.bin .lss (.t 42) (.t 41)) 41]) (.seq (.cond (.t 43) .skip (.exit 0)) (.seq (.block 1 (.seq (.reg 42 2 [o1 44 (.mv (.t 42)) 42,o1 11 (.mv (.t 44)) 43]) (.seq (.seq (.reg 44 10 [o1 45 (.mv (.t 11)) 44,
 o1 46 (.load 1 .false (.t 5)) 45,o1 47 (.bin .eql (.t 45) (.t 46)) 46,o1 48 (.mv (.t 47)) 47, .mk (.some 49) (.load 1 .false (.t 6)) (.some (48, .false)) 48 .none .false [] .false, .mk (.some 50) (.load 6 .true (.t 8)) (.some (48, .false))
 49 .none .false [] .false, .mk (.some 51) (.mv (.t 11)) (.some (48, .false)) 50 .none .false [] .false, .mk (.some 52) (.callv (.t 49) [.t 50, .t 51]) (.some (48, .false)) 51
 .none .false [] .false, .mk (.some 53) (.un .not (.t 52)) (.some (48, .false)) 52 .none .false [] .false,o1 54 (.pick (.t 48) (.k (.bool .true)) (.t 53)) 53]) (.cond (.t 54) (.exit 1) .skip)) (.seq (.draw 54 11 [1,11,8] [] [o3 55 (.load 1 .false (.t 7)) 54,o3 56 (.load 6 .true (.t 8)) 55,o3 57 (.mv (.t 11)) 56,o3 58 (.call 79 [.t 56, .t 57]) 57,o3 59 (.mv (.t 1)) 58, .mk (.some 60) (.call 80 [.t 59]) .none 59 (.some [57]) .false [] .false,o3 61 (.mv (.t 11)) 60,o3 62 (.bsl 3 1 1 [.int .i64 0] [(0, .t 61)]) 61, .mk (.some 63) (.app 3 1 8 (.t
 60) (.t 62)) .none 62 (.some [61,57,59]) .false [] .true, .mk (.some 64) (.callv (.t 55) [.t 58, .t 63]) .none 63 (.some [59,61,62,57]) .false [] .false, .mk (.some 12) (.mv
 (.t 64)) .none 64 (.some [57,62,61,59,63]) .true [] .false]) (.seq (.reg 65 8 [o1 65 (.mv (.t 12)) 65,o1 66 (.len (.t 65)) 66,o1 67 (.load 1 .false (.t 3)) 67,o1 68 (.nilc (.t 67)) 68,o1 69 (.faddr 7 (.t 68)) 69,o1 70 (.load 1 .false (.t 69)) 70,o1 71 (.len (.t 70)) 71,o1 72 (.bin .eql (.t 66) (.t 71)) 72]) (.cond (.t 72) (.seq (.reg 73 2 [o1 73 (.mv (.t 12)) 73,o1 10 (.mv (.t 73)) 74]) .ret) .skip)))))) (.reg 75 2 [o1 74 (.bin .add (.t 42) (.k (.int .i64 1))) 75,o1 42 (.mv (.t 74)) 76]))))))) (.seq (.reg 77 3 [o1 75 (.load 1 .false (.t 4)) 77,o1 76 (.load 6 .true (.t 8)) 78,o2 (.mup 198 (.t 75) (.t 76) (.k (.bool .true))) 79]) (.seq (.reg 80 2 [o1 77 (.mv (.t 1)) 80,o1 10 (.mv (.t 77)) 81]) .ret)))))
def rs54:List IRes:=[.tmp 10]
set_option maxRecDepth 100000 in
theorem comp54:CompAt Tryz.prog 78 7 ir54 rs54 78:=⟨⟨_,_,82,Tryz.func78,rfl,by kernel_rfl,by kernel_rfl,rfl⟩⟩
theorem body54:HasBody Tryz.prog 78:=hasBody_of (by kernel_rfl)

def ir55:IC :=
 .seq (.reg 0 2 [o1 2 (.box 198 (.t 0)) 0,o1 4 (.alloc 198 [.int .i64 0, .int .i64 0, .int .i64 0, .int .i64 0, .int .i64 0, .int .i64 0]) 1]) (.seq (.reg 2 6 [o1 5 (.mv (.t 1)) 2,o1 6 (.faddr 0 (.t 2)) 3,
 o1 7 (.load 1 .false (.t 6)) 4,o1 8 (.faddr 1 (.t 2)) 5,o1 9 (.aaddr 1 5 (.t 8) (.t 5)) 6,o2 (.store 1 (.t 9) (.t 7)) 7]) (.seq (.reg 8 5 [o1 10 (.faddr 0 (.t 2)) 8,o1 11 (.load 1 .false (.t 10)) 9,o1 12 (.bin .add (.t 11) (.k (.int .i64 1))) 10,o1 13 (.faddr 0 (.t 2)) 11,o2 (.store 1 (.t 13) (.t 12)) 12]) (.seq (.reg 13 2 [o1 14 (.load 6 .true (.t 2)) 13,o2 (.store 6 (.t 4) (.t 14)) 14]) .ret)))
def rs55:List IRes:=[.cell 4 6 .true]
set_option maxRecDepth 100000 in
theorem comp55:Comp Tryz.prog 79 ir55 rs55 15:=⟨⟨_,_,15,Tryz.func79,rfl,by kernel_rfl,by kernel_rfl,rfl⟩⟩
theorem body55:HasBody Tryz.prog 79:=hasBody_of (by kernel_rfl)

def ir56:IC :=
 .seq (.reg 0 1 [o1 2 (.mv (.k (.slice .none 0 0))) 0]) (.seq (.seq (.reg 1 2 [o1 3 (.mv (.t 0)) 1,o1 4 (.pur (.bin .eql 30) [.t 3, .k (.slice .none 0 0)]) 2]) (.cond (.t 4) (.seq (.reg 3 1 [o1 2 (.mv (.k (.slice .none 0 0))) 3]) .ret) .skip)) (.seq (.reg 4 4 [o1 5 (.bsl 3 1 0 [] []) 4,o1 6 (.mv (.t 0)) 5,
 o1 7 (.app 3 1 8 (.t 5) (.t 6)) 6,o1 2 (.mv (.t 7)) 7]) .ret))
def rs56:List IRes:=[.tmp 2]
set_option maxRecDepth 100000 in
theorem comp56:Comp Tryz.prog 80 ir56 rs56 8:=⟨⟨_,_,8,Tryz.func80,rfl,by kernel_rfl,by kernel_rfl,rfl⟩⟩
theorem body56:HasBody Tryz.prog 80:=hasBody_of (by kernel_rfl)

def ir57:IC :=
 .seq (.reg 0 1 [o1 2 (.alloc 198 [.int .i64 0, .int .i64 0, .int .i64 0, .int .i64 0, .int .i64 0, .int .i64 0]) 0]) (.seq (.reg 1 1 [o1 3 (.alloc 198 [.int .i64 0, .int .i64 0, .int .i64 0, .int .i64 0, .int .i64 0, .int .i64 0]) 1]) (.seq (.seq (.reg 2 1 [o1 7 (.mv (.k (.int .i64 0))) 2]) (.block 0 (.loop (.seq (.reg 3 1 [o1 8 (.bin .lss (.t 7) (.k (.int .i64 5))) 3]) (.seq
 (.cond (.t 8) .skip (.exit 0)) (.seq (.block 1 (.seq (.reg 4 2 [o1 9 (.mv (.t 7)) 4,o1 4 (.mv (.t 9)) 5]) (.reg 6 4 [o1 10 (.mv (.t 4)) 6,o1 11 (.faddr 1 (.t 3)) 7,o1 12 (.aaddr 1 5 (.t 11) (.t 10)) 8,o2 (.store 1 (.t 12) (.k (.int .i64 (-1)))) 9]))) (.reg 10 2 [o1 13 (.bin .add (.t 7) (.k (.int .i64 1))) 10,o1 7 (.mv (.t 13)) 11]))))))) (.seq (.seq (.reg 12 3 [o1 14 (.mv (.t 0)) 12,o1 15 (.len (.t 14)) 13,o1 16 (.mv (.k (.int .i64 0))) 14]) (.block 2 (.loop
 (.seq (.reg 15 1 [o1 17 (.bin .lss (.t 16) (.t 15)) 15]) (.seq (.cond (.t 17) .skip (.exit 2)) (.seq (.block 3 (.seq (.reg 16 3 [o1 18 (.iaddr 1 (.t 14) (.t 16)) 16,o1 19 (.load 1 .false (.t 18)) 17,o1 6 (.mv (.t 19)) 18]) (.reg 19 4 [o1 20 (.load 6 .true (.t 3)) 19,o1 21 (.mv (.t 6)) 20,o1 22 (.call 79 [.t 20, .t 21]) 21,o2 (.store 6 (.t 3) (.t 22)) 22]))) (.reg 23 2 [o1 23 (.bin .add (.t 16) (.k (.int .i64 1))) 23,o1 16 (.mv (.t 23)) 24]))))))) (.seq (.reg 25 2 [o1 24 (.load 6 .true (.t 3)) 25,o2 (.store 6 (.t 2) (.t 24)) 26]) .ret))))
def rs57:List IRes:=[.cell 2 6 .true]
set_option maxRecDepth 100000 in
theorem comp57:Comp Tryz.prog 81 ir57 rs57 25:=⟨⟨_,_,27,Tryz.func81,rfl,by kernel_rfl,by kernel_rfl,rfl⟩⟩
theorem body57:HasBody Tryz.prog 81:=hasBody_of (by kernel_rfl)

def ir60:IC :=
 .seq (.reg 0 1 [o1 2 (.mv (.k (.int .i64 0))) 0]) (.seq (.seq (.reg 1 3 [o1 5 (.mv (.t 0)) 1,o1 6 (.len (.t 5)) 2,o1 7 (.mv (.k (.int .i64 0))) 3]) (.block 0 (.loop (.seq (.reg 4 1 [o1 8 (.bin .lss (.t 7) (.t 6)) 4]) (.seq (.cond (.t 8) .skip (.exit 0)) (.seq (.block 1 (.seq (.reg 5 3 [o1 9 (.iaddr 1 (.t 5) (.t 7)) 5,o1 10 (.load 1 .false (.t 9)) 6,o1 4 (.mv (.t 10)) 7]) (.reg 8 4 [o1 11 (.mv (.t 2)) 8,o1 12 (.mv (.t 4)) 9,o1 13 (.bin .add (.t 11) (.t 12)) 10,o1 2 (.mv (.t 13)) 11]))) (.reg 12 2 [o1 14 (.bin .add (.t 7) (.k (.int .i64 1))) 12,o1 7 (.mv (.t 14)) 13]))))))) (.seq (.reg 14 2 [o1 15 (.mv (.t 2)) 14,o1 2 (.mv (.t 15)) 15]) .ret))
def rs60:List IRes:=[.tmp 2]
set_option maxRecDepth 100000 in
theorem comp60:Comp Tryz.prog 207 ir60 rs60 16:=⟨⟨_,_,16,Tryz.func207,rfl,by kernel_rfl,by kernel_rfl,rfl⟩⟩
theorem body60:HasBody Tryz.prog 207:=hasBody_of (by kernel_rfl)

def ir61:IC :=
 .seq (.reg 0 2 [o1 1 (.box 143 (.t 0)) 0,o1 2 (.mv (.k (.int .i64 0))) 1]) (.seq (.reg 2 6 [o1 3 (.faddr 1 (.t 1)) 2,o1 4 (.load 1 .false (.t 3)) 3,o1 5 (.faddr 0 (.t 1)) 4,o1 6 (.load 1 .false (.t 5)) 5,o1 7 (.bin .sub (.t 4) (.t 6)) 6,o1 2 (.mv (.t 7)) 7]) .ret)
def rs61:List IRes:=[.tmp 2]
set_option maxRecDepth 100000 in
theorem comp61:Comp Tryz.prog 108 ir61 rs61 8:=⟨⟨_,_,8,Tryz.func108,rfl,by kernel_rfl,by kernel_rfl,rfl⟩⟩
theorem body61:HasBody Tryz.prog 108:=hasBody_of (by kernel_rfl)

def ir62:IC :=
 .seq (.reg 0 2 [o1 3 (.box 234 (.t 1)) 0,o1 4 (.mv (.k (.bool .false))) 1]) (.seq (.reg 2 5 [o1 5 (.mv (.t 0)) 2,o1 6 (.mkf 168 [] [.t 3]) 3,o1 7 (.call 167 [.t 5, .t 6]) 4,o1 8 (.un .not (.t 7)) 5,o1 4 (.mv (.t 8)) 6]) .ret)
def rs62:List IRes:=[.tmp 4]
set_option maxRecDepth 100000 in
theorem comp62:Comp Tryz.prog 105 ir62 rs62 9:=⟨⟨_,_,7,Tryz.func105,rfl,by kernel_rfl,by kernel_rfl,rfl⟩⟩
theorem body62:HasBody Tryz.prog 105:=hasBody_of (by kernel_rfl)

def ir63:IC :=
 .seq (.reg 0 2 [o1 1 (.box 146 (.t 0)) 0,o1 2 (.mv (.k (.bool .false))) 1]) (.seq (.reg 2 25 [o1 3 (.faddr 0 (.t 1)) 2,o1 4 (.faddr 0 (.t 3)) 3,o1 5 (.load 1 .false (.t 4)) 4,o1 6 (.bin .leq (.k (.int .i64 0)) (.t 5)) 5,o1 7 (.mv (.t 6)) 6, .mk (.some 8) (.faddr 0 (.t
 1)) (.some (7, .true)) 7 .none .false [] .false, .mk (.some 9) (.faddr 0 (.t 8)) (.some (7, .true)) 8 .none .false [] .false, .mk (.some 10) (.load 1 .false (.t 9)) (.some (7,
 .true)) 9 .none .false [] .false, .mk (.some 11) (.faddr 0 (.t 1)) (.some (7, .true)) 10 .none .false [] .false, .mk (.some 12) (.faddr 1 (.t 11)) (.some (7, .true)) 11 .none
 .false [] .false, .mk (.some 13) (.load 1 .false (.t 12)) (.some (7, .true)) 12 .none .false [] .false, .mk (.some 14) (.bin .leq (.t 10) (.t 13)) (.some (7, .true)) 13 .none
 .false [] .false,o1 15 (.pick (.t 7) (.t 14) (.k (.bool .false))) 14,o1 16 (.mv (.t 15)) 15, .mk
 (.some 17) (.faddr 0 (.t 1)) (.some (16, .true)) 16 .none .false [] .false, .mk (.some 18) (.faddr 1 (.t 17)) (.some (16, .true)) 17 .none .false [] .false, .mk (.some 19) (.load
 1 .false (.t 18)) (.some (16, .true)) 18 .none .false [] .false, .mk (.some 20) (.bin .leq (.t 19) (.k (.int .i64 20))) (.some (16, .true)) 19 .none .false [] .false,o1 21 (.pick (.t 16) (.t 20) (.k (.bool .false))) 20,o1 22 (.mv (.t 21)) 21, .mk (.some 23) (.faddr 2 (.t 1))
 (.some (22, .true)) 22 .none .false [] .false, .mk (.some 24) (.load 1 .false (.t 23)) (.some (22, .true)) 23 .none .false [] .false, .mk (.some 25) (.call 53 [.t 24, .k (.int
 .i64 0), .k (.int .i64 36000)]) (.some (22, .true)) 24 .none .false [] .false,o1 26 (.pick (.t 22) (.t 25) (.k (.bool .false))) 25,o1 2 (.mv (.t 26)) 26]) .ret)
def rs63:List IRes:=[.tmp 2]
set_option maxRecDepth 100000 in
theorem comp63:Comp Tryz.prog 106 ir63 rs63 27:=⟨⟨_,_,27,Tryz.func106,rfl,by kernel_rfl,by kernel_rfl,rfl⟩⟩
theorem body63:HasBody Tryz.prog 106:=hasBody_of (by kernel_rfl)

def ir64:IC :=
 .seq (.reg 0 2 [o1 1 (.box 69 (.t 0)) 0,o1 2 (.mv (.k .nilFunc)) 1]) (.seq (.reg 2 2 [o1 3 (.mkf 170 [] [.t 1]) 2,o1 2 (.mv (.t 3)) 3]) .ret)
def rs64:List IRes:=[.tmp 2]
set_option maxRecDepth 100000 in
theorem comp64:Comp Tryz.prog 109 ir64 rs64 4:=⟨⟨_,_,4,Tryz.func109,rfl,by kernel_rfl,by kernel_rfl,rfl⟩⟩
theorem body64:HasBody Tryz.prog 109:=hasBody_of (by kernel_rfl)

def ir65:IC :=
 .seq (.reg 2 1 [o1 4 (.mv (.k (.bool .false))) 2]) (.seq (.reg 3 5 [o1 5 (.mv (.t 0)) 3,o1 6 (.mv (.t 1)) 4,o1 7 (.call 183 [.t 5, .t 6]) 5,o1 8 (.bin .geq (.t 7) (.k (.int .i64 0))) 6,o1 4 (.mv (.t 8)) 7]) .ret)
def rs65:List IRes:=[.tmp 4]
set_option maxRecDepth 100000 in
theorem comp65:CompAt Tryz.prog 176 2 ir65 rs65 9:=⟨⟨_,_,8,Tryz.func176,rfl,by kernel_rfl,by kernel_rfl,rfl⟩⟩
theorem body65:HasBody Tryz.prog 176:=hasBody_of (by kernel_rfl)

def ir67:IC :=
 .seq (.reg 1 1 [o1 4 (.mv (.k (.bool .false))) 1]) (.seq (.reg 2 5 [o1 5 (.mv (.t 0)) 2,o1 6 (.mv (.t 1)) 3,o1 7 (.call 206 [.t 5, .t 6]) 4,o1 8 (.bin .geq (.t 7) (.k (.int .i64 0))) 5,o1 4 (.mv (.t 8)) 6]) .ret)
def rs67:List IRes:=[.tmp 4]
set_option maxRecDepth 100000 in
theorem comp67:CompAt Tryz.prog 167 1 ir67 rs67 9:=⟨⟨_,_,7,Tryz.func167,rfl,by kernel_rfl,by kernel_rfl,rfl⟩⟩
theorem body67:HasBody Tryz.prog 167:=hasBody_of (by kernel_rfl)

def ir68:IC :=
 .seq (.reg 1 2 [o1 2 (.box 146 (.t 0)) 1,o1 3 (.mv (.k (.bool .false))) 2]) (.seq (.reg 3 5 [o1 4 (.load 1 .false (.t 1)) 3,o1 5 (.load 3 .true (.t 2)) 4,o1 6 (.callv (.t 4) [.t 5]) 5,o1 7 (.un .not (.t 6)) 6,o1 3 (.mv (.t 7)) 7]) .ret)
def rs68:List IRes:=[.tmp 3]
set_option maxRecDepth 100000 in
theorem comp68:CompAt Tryz.prog 168 1 ir68 rs68 8:=⟨⟨_,_,8,Tryz.func168,rfl,by kernel_rfl,by kernel_rfl,rfl⟩⟩
theorem body68:HasBody Tryz.prog 168:=hasBody_of (by kernel_rfl)

def ir69:IC :=
 .seq (.reg 0 1 [o1 3 (.mv (.k (.int .i64 0))) 0]) (.seq (.draw 1 12 [1] [] [o3 7 (.faddr 1 (.t 1)) 1,
 o3 8 (.load 1 .false (.t 7)) 2,o3 9 (.call 171 [.t 8]) 3,o3 10 (.faddr 0 (.t 1)) 4,o3 11 (.load 1 .false (.t 10)) 5,o3 12 (.faddr 0 (.t 1)) 6,o3 13 (.load 1 .false (.t 12)) 7,o3 14 (.bld [(0,1),(1,1)] [.int .i64 0, .int .i64 0] [(0, .t 11),(1, .t 13)]) 8,o3 15 (.bsl 143 2 1 [.int .i64 0, .int .i64 0] [(0, .t 14)]) 9, .mk (.some 16) (.app 143 2 16 (.t 9)
 (.t 15)) .none 10 (.some [9,3]) .false [] .false, .mk (.some 17) (.len (.t 16)) .none 11 (.some [3,9,10]) .true [] .false,o3 18 (.mv (.k (.int .i64 0))) 12]) (.block 0 (.loop (.seq (.reg 13 1 [o1 19 (.bin .lss (.t 18) (.t 17)) 13]) (.seq (.cond (.t 19) .skip (.exit 0))
 (.seq (.block 1 (.seq (.reg 14 4 [o1 20 (.iaddr 2 (.t 16) (.t 18)) 14,o1 21 (.load 2 .true (.t 20)) 15,o1 5 (.alloc 143 [.int .i64 0, .int .i64 0]) 16,o2 (.store 2 (.t 5) (.t 21)) 17]) (.seq (.seq
 (.reg 18 6 [o1 22 (.mv (.t 3)) 18,o1 23 (.faddr 0 (.t 5)) 19,o1 24 (.load 1 .false (.t 23)) 20,o1 25 (.bld [(0,1),(1,1)] [.int .i64 0, .int .i64 0] [(0, .t 22),(1, .t 24)]) 21,o1 6 (.alloc 143 [.int .i64 0, .int .i64 0]) 22,o2 (.store 2 (.t 6) (.t 25)) 23]) (.seq (.reg 24 9 [o1 26 (.load 2 .true (.t 6)) 24,o1 27 (.call 108 [.t 26]) 25,o1 28 (.bin .gtr (.t 27) (.k (.int .i64 0))) 26,o1 29 (.mv (.t 28)) 27, .mk (.some 30) (.mv (.t 0)) (.some (29, .true)) 28 .none .false [] .false, .mk (.some 31)
 (.load 2 .true (.t 6)) (.some (29, .true)) 29 .none .false [] .false, .mk (.some 32) (.callv (.t 30) [.t 31]) (.some (29, .true)) 30 .none .false [] .false, .mk (.some 33) (.un
 .not (.t 32)) (.some (29, .true)) 31 .none .false [] .false,o1 34 (.pick (.t 29) (.t 33) (.k (.bool .false))) 32]) (.cond (.t 34) .ret
 .skip))) (.reg 33 3 [o1 35 (.faddr 1 (.t 5)) 33,o1 36 (.load 1 .false (.t 35)) 34,o1 3 (.mv (.t 36)) 35])))) (.reg 36 2 [o1 37 (.bin .add (.t 18) (.k (.int .i64 1))) 36,o1 18 (.mv (.t 37)) 37])))))))
def rs69:List IRes:=[]
set_option maxRecDepth 100000 in
theorem comp69:Comp Tryz.prog 170 ir69 rs69 38:=⟨⟨_,_,38,Tryz.func170,rfl,by kernel_rfl,by kernel_rfl,rfl⟩⟩
theorem body69:HasBody Tryz.prog 170:=hasBody_of (by kernel_rfl)

def ir70:IC :=
 .seq (.reg 0 1 [o1 2 (.mv (.k (.slice .none 0 0))) 0]) (.seq (.seq (.reg 1 2 [o1 3 (.mv (.t 0)) 1,o1 4 (.pur (.bin .eql 67) [.t 3, .k (.slice .none 0 0)]) 2]) (.cond (.t 4) (.seq (.reg 3 1 [o1 2 (.mv (.k (.slice .none 0 0))) 3]) .ret) .skip)) (.seq (.reg 4 4 [o1 5 (.bsl 143 2 0 [] []) 4,o1 6 (.mv (.t 0)) 5,o1 7 (.app 143 2 16 (.t 5) (.t 6)) 6,o1 2 (.mv (.t 7)) 7]) .ret))
def rs70:List IRes:=[.tmp 2]
set_option maxRecDepth 100000 in
theorem comp70:Comp Tryz.prog 171 ir70 rs70 8:=⟨⟨_,_,8,Tryz.func171,rfl,by kernel_rfl,by kernel_rfl,rfl⟩⟩
theorem body70:HasBody Tryz.prog 171:=hasBody_of (by kernel_rfl)

theorem body71:HasBody Tryz.prog 183:=hasBody_of (by kernel_rfl)

def ir72:IC :=
 .seq (.reg 1 1 [o1 4 (.mv (.k (.int .i64 0))) 1]) (.seq (.seq (.reg 2 3 [o1 6 (.mv (.t 0)) 2,o1 7 (.len (.t 6)) 3,o1 8 (.mv (.k (.int .i64 0))) 4]) (.block 0 (.loop (.seq (.reg 5 1 [o1 9 (.bin .lss (.t 8) (.t 7)) 5]) (.seq (.cond (.t 9) .skip (.exit 0)) (.seq (.block 1 (.seq (.reg 6 2 [o1 10 (.mv (.t 8)) 6,
 o1 5 (.mv (.t 10)) 7]) (.seq (.reg 8 6 [o1 11 (.mv (.t 1)) 8,o1 12 (.mv (.t 0)) 9,o1 13 (.mv (.t 5)) 10,o1 14 (.iaddr 3 (.t 12) (.t 13)) 11,o1 15 (.load 3 .true (.t 14)) 12,o1 16 (.callv (.t 11) [.t 15]) 13]) (.cond (.t 16) (.seq (.reg 14 2 [o1 17 (.mv (.t 5)) 14,o1 4 (.mv (.t 17)) 15]) .ret) .skip)))) (.reg 16 2 [o1 18 (.bin .add (.t 8) (.k (.int .i64 1))) 16,o1 8 (.mv (.t 18)) 17]))))))) (.seq (.reg 18 1 [o1 4 (.mv (.k (.int .i64 (-1)))) 18]) .ret))
def rs72:List IRes:=[.tmp 4]
set_option maxRecDepth 100000 in
theorem comp72:CompAt Tryz.prog 206 1 ir72 rs72 19:=⟨⟨_,_,19,Tryz.func206,rfl,by kernel_rfl,by kernel_rfl,rfl⟩⟩
theorem body72:HasBody Tryz.prog 206:=hasBody_of (by kernel_rfl)

end Go.Proofs.YtefnikpoimaiiaaGreat.L
