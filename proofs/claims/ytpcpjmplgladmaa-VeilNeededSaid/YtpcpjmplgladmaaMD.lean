/- The intermediate forms of functions of the program (printed by a program of mine), each checked against the code. The intermediate forms of functions of the program (printed by a program of mine), each checked against the code. -/
import Derived.Test.YtpcpjmplgladmaaMC
import Derived.Test.YtpcpjmplgladmaaProg
import Derived.KernelRfl
set_option linter.unusedSimpArgs false
set_option linter.unusedVariables false
namespace Go.Proofs.Ytpcpjmplgladmaa
open Go.Pal
def ir13:IC :=
 .seq (.reg 0 3 [o1 2 (.box 25 (.t 0)) 0,o1 3 (.box 28 (.t 1)) 1,o1 4 (.mv (.k (.bool .false))) 2]) (.seq (.seq (.reg 3 1 [o1 5 (.mv (.k (.int .i64 0))) 3]) (.block 0 (.loop (.seq (.seq (.reg 4 5 [o1 6 (.mv (.t 5)) 4,o1 7 (.faddr 0 (.t 2)) 5,o1 8 (.load 1 .false (.t 7)) 6,o1 9 (.len (.t 8)) 7,o1 10 (.bin .lss (.t 6) (.t 9)) 8]) (.cond (.t 10) .skip (.exit 0)))
 (.seq (.block 1 (.seq (.reg 9 18 [o1 13 (.faddr 0 (.t 2)) 9,o1 14 (.load 1 .false (.t 13)) 10,o1 15 (.mv (.t 5)) 11,o1 16 (.iaddr 2 (.t 14) (.t 15)) 12,o1 17 (.faddr 0 (.t 16)) 13,o1 18 (.load 1 .false (.t 17)) 14,o1 19 (.lenS (.t 18)) 15,o1 20 (.bin .gtr (.t 19) (.k (.int .i64 25))) 16,o1 21 (.mv (.t 20)) 17, .mk (.some 22) (.faddr 0 (.t 2)) (.some (21,
 .false)) 18 .none .false [] .false, .mk (.some 23) (.load 1 .false (.t 22)) (.some (21, .false)) 19 .none .false [] .false, .mk (.some 24) (.mv (.t 5)) (.some (21, .false)) 20
 .none .false [] .false, .mk (.some 25) (.iaddr 2 (.t 23) (.t 24)) (.some (21, .false)) 21 .none .false [] .false, .mk (.some 26) (.faddr 1 (.t 25)) (.some (21, .false)) 22 .none
 .false [] .false, .mk (.some 27) (.load 1 .false (.t 26)) (.some (21, .false)) 23 .none .false [] .false, .mk (.some 28) (.len (.t 27)) (.some (21, .false)) 24 .none .false []
 .false, .mk (.some 29) (.bin .gtr (.t 28) (.k (.int .i64 8))) (.some (21, .false)) 25 .none .false [] .false,o1 30 (.pick (.t 21) (.k (.bool .true)) (.t 29)) 26]) (.cond (.t 30) (.seq (.reg 27 1 [o1 4 (.mv (.k (.bool .false))) 27]) .ret) .skip))) (.reg 28 3 [o1 11 (.mv (.t 5)) 28,o1 12 (.bin .add (.t 11) (.k (.int .i64 1))) 29,o1 5 (.mv (.t 12)) 30])))))) (.seq (.reg 31 17 [o1 31 (.faddr 0 (.t 2)) 31,o1 32 (.load 1 .false (.t 31)) 32,o1 33 (.len (.t 32)) 33,o1 34 (.bin .leq (.t 33) (.k (.int .i64 65))) 34,o1 35 (.mv (.t 34)) 35, .mk (.some 36) (.faddr 1 (.t 2)) (.some (35, .true)) 36 .none .false [] .false, .mk (.some 37) (.load 1 .false (.t 36)) (.some (35, .true)) 37
 .none .false [] .false, .mk (.some 38) (.len (.t 37)) (.some (35, .true)) 38 .none .false [] .false, .mk (.some 39) (.bin .leq (.t 38) (.k (.int .i64 15))) (.some (35, .true)) 39
 .none .false [] .false,o1 40 (.pick (.t 35) (.t 39) (.k (.bool .false))) 40,o1 41 (.mv (.t 40)) 41,
 .mk (.some 42) (.faddr 1 (.t 3)) (.some (41, .true)) 42 .none .false [] .false, .mk (.some 43) (.load 1 .false (.t 42)) (.some (41, .true)) 43 .none .false [] .false, .mk (.some
 44) (.len (.t 43)) (.some (41, .true)) 44 .none .false [] .false, .mk (.some 45) (.bin .leq (.t 44) (.k (.int .i64 12))) (.some (41, .true)) 45 .none .false [] .false,o1 46 (.pick (.t 41) (.t 45) (.k (.bool .false))) 46,o1 4 (.mv (.t 46)) 47]) .ret))
def rs13:List IRes:=[.tmp 4]
set_option maxRecDepth 100000 in
theorem comp13:Comp Try.prog 13 ir13 rs13 47:=⟨⟨_,_,48,Try.func13,rfl,by kernel_rfl,by kernel_rfl,rfl⟩⟩
theorem body13:HasBody Try.prog 13:=hasBody_of (by kernel_rfl)

def ir16:IC :=
 .seq (.reg 0 2 [o1 1 (.box 25 (.t 0)) 0,o1 2 (.alloc 38 [.slice .none 0 0, .slice .none 0 0, .int .i64 0]) 1]) (.seq (.reg 2 5 [o1 7 (.faddr 2 (.t 1)) 2,o1 8 (.load 1 .false (.t 7)) 3,o1 9 (.bld [(0,1),(1,1),(2,1)] [.slice .none 0 0, .slice .none 0 0, .int .i64 0] [(2, .t 8)]) 4,o1 3 (.alloc 38 [.slice .none 0 0, .slice .none 0 0, .int .i64 0]) 5,o2 (.store 3 (.t 3) (.t 9)) 6]) (.seq (.seq (.reg 7 1 [o1 4 (.mv (.k (.int .i64 0))) 7]) (.block 0 (.loop (.seq (.seq (.reg 8 5 [o1 10 (.mv (.t 4)) 8,o1 11 (.faddr 0 (.t 1)) 9,o1 12 (.load 1 .false (.t 11)) 10,o1 13 (.len (.t 12)) 11,o1 14 (.bin .lss (.t 10) (.t 13)) 12]) (.cond (.t 14) .skip (.exit 0))) (.seq (.block 1 (.draw 13 20 [] [] [o3 17 (.faddr 0 (.t 3)) 13,o3 18 (.load 1 .false (.t 17)) 14,o3 19 (.faddr 0 (.t 1)) 15,o3 20 (.load 1 .false (.t 19)) 16,o3 21 (.mv (.t 4)) 17,o3 22 (.iaddr 2 (.t 20) (.t 21)) 18,o3 23 (.faddr 0 (.t 22)) 19,o3 24 (.load 1 .false (.t 23)) 20,o3 25 (.faddr 0 (.t 1)) 21,o3 26 (.load 1 .false (.t 25)) 22,o3 27 (.mv (.t 4)) 23,o3 28 (.iaddr 2 (.t 26) (.t 27)) 24,o3 29 (.faddr 1 (.t 28)) 25,o3 30 (.load 1 .false (.t 29)) 26,o3 31 (.call 27 [.t 30]) 27, .mk (.some 32) (.bld [(0,1),(1,
 1)] [.string (ByteArray.mk (Array.mk [])), .slice .none 0 0] [(0, .t 24),(1, .t 31)]) .none 28 (.some [27]) .true [] .false, .mk (.some 33) (.bsl 104 2 1 [.string (ByteArray.mk
 (Array.mk [])), .slice .none 0 0] [(0, .t 32)]) .none 29 (.some [27]) .true [] .false, .mk (.some 34) (.app 104 2 40 (.t 18) (.t 33)) .none 30 (.some [27,29]) .false [] .false,
 .mk (.some 35) (.faddr 0 (.t 3)) .none 31 (.some [30,29,27]) .true [] .false, .mk .none (.store 1 (.t 35) (.t 34)) .none 32 (.some [27,29,30]) .true [] .false])) (.reg 33 3
 [o1 15 (.mv (.t 4)) 33,o1 16 (.bin .add (.t 15) (.k (.int .i64 1))) 34,o1 4 (.mv (.t 16)) 35])))))) (.seq (.seq (.reg 36 1 [o1 5 (.mv (.k (.int .i64 0))) 36]) (.block 2 (.loop (.seq (.seq (.reg 37 5
 [o1 36 (.mv (.t 5)) 37,o1 37 (.faddr 1 (.t 1)) 38,o1 38 (.load 1 .false (.t 37)) 39,o1 39 (.len (.t 38)) 40,o1 40 (.bin .lss (.t 36) (.t 39)) 41]) (.cond (.t 40)
 .skip (.exit 2))) (.seq (.block 3 (.seq (.reg 42 7 [o1 43 (.faddr 1 (.t 1)) 42,o1 44 (.load 1 .false (.t 43)) 43,o1 45 (.mv (.t 5)) 44,o1 46 (.iaddr 4 (.t 44) (.t 45)) 45,o1 47 (.load 4 .true (.t 46)) 46,o1 6 (.alloc 90 [.int .i64 0, .int .i64 0, .int .i64 0, .int .i64 0]) 47,o2 (.store 4 (.t 6) (.t 47)) 48]) (.reg 49 15 [o1 48 (.faddr 1 (.t 3)) 49,o1 49 (.load 1 .false (.t 48)) 50,o1 50 (.faddr 0 (.t 6)) 51,o1 51 (.load 1 .false (.t 50)) 52,o1 52 (.faddr 1 (.t 6)) 53,o1 53 (.load 1 .false (.t 52)) 54,o1 54 (.faddr 2 (.t 6)) 55,o1 55 (.load 1 .false (.t 54)) 56,o1 56 (.faddr 3 (.t 6)) 57,o1 57 (.load 1 .false (.t 56)) 58,o1 58 (.bld [(0,1),(1,1),(2,1),(3,1)] [.int .i64 0, .int .i64 0, .int .i64 0, .int .i64 0] [(0, .t 51),(1, .t 53),(2, .t 55),(3, .t 57)]) 59,o1 59 (.bsl 65 4 1 [.int .i64 0, .int .i64 0, .int .i64 0, .int .i64 0] [(0, .t 58)]) 60,o1 60 (.app 65 4 32 (.t 49) (.t 59)) 61,o1 61 (.faddr 1 (.t 3)) 62,o2 (.store 1 (.t 61) (.t 60)) 63]))) (.reg 64 3 [o1 41 (.mv (.t 5)) 64,o1 42 (.bin .add (.t 41) (.k (.int .i64 1))) 65,o1 5 (.mv (.t 42)) 66])))))) (.seq (.reg 67 2 [o1 62 (.load 3 .true (.t 3)) 67,o2 (.store 3 (.t 2) (.t 62)) 68]) .ret))))
def rs16:List IRes:=[.cell 2 3 .true]
set_option maxRecDepth 100000 in
theorem comp16:Comp Try.prog 16 ir16 rs16 63:=⟨⟨_,_,69,Try.func16,rfl,by kernel_rfl,by kernel_rfl,rfl⟩⟩
theorem body16:HasBody Try.prog 16:=hasBody_of (by kernel_rfl)

def ir17:IC :=
 .seq (.reg 0 2 [o1 1 (.box 28 (.t 0)) 0,o1 2 (.alloc 40 [.int .i64 0, .slice .none 0 0]) 1]) (.seq
 (.draw 2 7 [1] [] [o3 3 (.faddr 0 (.t 1)) 2,o3 4 (.load 1 .false (.t 3)) 3,o3 5 (.faddr 1 (.t 1)) 4,o3 6 (.load 1 .false (.t 5)) 5,o3 7 (.call 27 [.t 6]) 6, .mk (.some 8) (.bld [(0,1),(1,1)] [.int .i64 0, .slice .none 0 0] [(0, .t 4),(1, .t 7)]) .none 7 (.some [6]) .true [] .false, .mk .none (.store 2 (.t 2) (.t
 8)) .none 8 (.some [6]) .true [] .false]) .ret)
def rs17:List IRes:=[.cell 2 2 .true]
set_option maxRecDepth 100000 in
theorem comp17:Comp Try.prog 17 ir17 rs17 9:=⟨⟨_,_,9,Try.func17,rfl,by kernel_rfl,by kernel_rfl,rfl⟩⟩
theorem body17:HasBody Try.prog 17:=hasBody_of (by kernel_rfl)

def ir18:IC :=
 .seq (.reg 0 3 [o1 2 (.box 25 (.t 0)) 0,o1 3 (.box 28 (.t 1)) 1,o1 4 (.mv (.k (.int .i64 0))) 2]) (.seq (.seq (.reg 3 3 [o1 6 (.load 3 .true (.t 2)) 3,o1 7 (.call 32 [.t 6]) 4,o1 5 (.mv (.t 7)) 5]) (.seq (.reg 6 2 [o1 8 (.mv (.t 5)) 6,o1 9 (.bin .neq (.t 8) (.k (.int .i64 0))) 7]) (.cond (.t 9) (.seq (.reg 8 2 [o1 10 (.mv (.t 5)) 8,o1 4 (.mv (.t 10)) 9]) .ret) .skip))) (.seq (.seq (.reg 10 3 [o1 11 (.load 2 .true (.t 3)) 10,o1 12 (.call 49 [.t 11]) 11,o1 13 (.un .not (.t 12)) 12]) (.cond (.t 13) (.seq (.reg 13 1 [o1 4 (.mv (.k (.int .i64 2))) 13]) .ret) .skip)) (.seq (.reg 14 1 [o1 4 (.mv (.k (.int .i64 0))) 14]) .ret)))
def rs18:List IRes:=[.tmp 4]
set_option maxRecDepth 100000 in
theorem comp18:Comp Try.prog 18 ir18 rs18 14:=⟨⟨_,_,15,Try.func18,rfl,by kernel_rfl,by kernel_rfl,rfl⟩⟩
theorem body18:HasBody Try.prog 18:=hasBody_of (by kernel_rfl)

def ir20:IC :=
 .seq (.reg 0 1 [o1 4 (.mv (.k (.bool .false))) 0]) (.seq (.seq (.reg 1 5 [o1 6 (.mv (.t 0)) 1,o1 7 (.len (.t 6)) 2,o1 8 (.mv (.t 1)) 3,o1 9 (.len (.t 8)) 4,o1 10 (.bin .neq (.t 7) (.t 9)) 5]) (.cond (.t 10) (.seq (.reg 6 1 [o1 4 (.mv (.k (.bool .false))) 6]) .ret)
 .skip)) (.seq (.seq (.reg 7 1 [o1 5 (.mv (.k (.int .i64 0))) 7]) (.block 0 (.loop (.seq (.seq (.reg 8 4 [o1 11 (.mv (.t 5)) 8,o1 12 (.mv (.t 0)) 9,o1 13 (.len (.t 12)) 10,o1 14 (.bin .lss (.t 11) (.t 13)) 11]) (.cond (.t 14) .skip (.exit 0))) (.seq (.block 1 (.seq (.draw 12 25 [] [] [o3 17 (.mv (.t 0)) 12,o3 18 (.mv (.t 5)) 13,o3 19 (.iaddr 2 (.t 17) (.t 18)) 14,o3 20 (.faddr 0 (.t 19)) 15,o3 21 (.load 1 .false (.t 20)) 16,o3 22 (.mv (.t 1)) 17,o3 23 (.mv (.t 5)) 18,o3 24 (.iaddr 2 (.t 22) (.t 23)) 19,o3 25 (.faddr 0 (.t 24)) 20,o3 26 (.load 1 .false (.t 25)) 21,o3 27 (.bin .neq (.t 21) (.t 26)) 22,o3 28 (.mv (.t 27)) 23, .mk (.some 29) (.mv (.t 0)) (.some (28, .false)) 24 (.some []) .true [] .false, .mk
 (.some 30) (.mv (.t 5)) (.some (28, .false)) 25 (.some []) .true [] .false, .mk (.some 31) (.iaddr 2 (.t 29) (.t 30)) (.some (28, .false)) 26 (.some []) .true [] .false, .mk
 (.some 32) (.faddr 1 (.t 31)) (.some (28, .false)) 27 (.some []) .true [] .false, .mk (.some 33) (.load 1 .false (.t 32)) (.some (28, .false)) 28 (.some []) .true [] .false, .mk
 (.some 34) (.mv (.t 1)) (.some (28, .false)) 29 (.some []) .true [] .false, .mk (.some 35) (.mv (.t 5)) (.some (28, .false)) 30 (.some []) .true [] .false, .mk (.some 36) (.iaddr
 2 (.t 34) (.t 35)) (.some (28, .false)) 31 (.some []) .true [] .false, .mk (.some 37) (.faddr 1 (.t 36)) (.some (28, .false)) 32 (.some []) .true [] .false, .mk (.some 38) (.load
 1 .false (.t 37)) (.some (28, .false)) 33 (.some []) .true [] .false, .mk (.some 39) (.call 38 [.t 33, .t 38]) (.some (28, .false)) 34 (.some []) .true [] .false, .mk (.some 40)
 (.un .not (.t 39)) (.some (28, .false)) 35 (.some [34]) .true [] .false, .mk (.some 41) (.pick (.t 28) (.k (.bool .true)) (.t 40)) .none 36 (.some [34]) .true [] .false]) (.cond
 (.t 41) (.seq (.reg 37 1 [o1 4 (.mv (.k (.bool .false))) 37]) .ret) .skip))) (.reg 38 3 [o1 15 (.mv (.t 5)) 38,o1 16 (.bin .add (.t 15) (.k (.int .i64 1))) 39,o1 5 (.mv (.t 16)) 40])))))) (.seq (.reg 41 1
 [o1 4 (.mv (.k (.bool .true))) 41]) .ret)))
def rs20:List IRes:=[.tmp 4]
set_option maxRecDepth 100000 in
theorem comp20:Comp Try.prog 20 ir20 rs20 42:=⟨⟨_,_,42,Try.func20,rfl,by kernel_rfl,by kernel_rfl,rfl⟩⟩
theorem body20:HasBody Try.prog 20:=hasBody_of (by kernel_rfl)

def ir23:IC :=
 .seq (.reg 0 3 [o1 2 (.box 25 (.t 0)) 0,o1 3 (.box 28 (.t 1)) 1,o1 4 (.mv (.k (.bool .false))) 2]) (.seq (.reg 3 10 [o1 5 (.load 3 .true (.t 2)) 3,o1 6 (.load 2 .true (.t 3)) 4,o1 7 (.call 13 [.t 5, .t 6]) 5,o1 8 (.mv (.t 7)) 6, .mk (.some 9) (.load 3 .true (.t 2))
 (.some (8, .true)) 7 .none .false [] .false, .mk (.some 10) (.load 2 .true (.t 3)) (.some (8, .true)) 8 .none .false [] .false, .mk (.some 11) (.call 18 [.t 9, .t 10]) (.some (8,
 .true)) 9 .none .false [] .false, .mk (.some 12) (.bin .eql (.t 11) (.k (.int .i64 0))) (.some (8, .true)) 10 .none .false [] .false,o1 13 (.pick (.t 8) (.t 12) (.k (.bool .false))) 11,o1 4 (.mv (.t 13)) 12]) .ret)
def rs23:List IRes:=[.tmp 4]
set_option maxRecDepth 100000 in
theorem comp23:Comp Try.prog 23 ir23 rs23 14:=⟨⟨_,_,13,Try.func23,rfl,by kernel_rfl,by kernel_rfl,rfl⟩⟩
theorem body23:HasBody Try.prog 23:=hasBody_of (by kernel_rfl)

def ir24:IC :=
 .seq (.reg 0 1 [o1 4 (.mv (.k (.bool .false))) 0]) (.seq (.seq (.reg 1 1 [o1 5 (.mv (.k (.int .i64 0))) 1]) (.block 0 (.loop (.seq (.seq (.reg 2 4 [o1 6 (.mv (.t 5)) 2,o1 7 (.mv (.t 0)) 3,o1 8 (.len (.t 7)) 4,o1 9 (.bin .lss (.t 6) (.t 8)) 5]) (.cond (.t 9) .skip (.exit 0))) (.seq (.block 1 (.seq
 (.reg 6 6 [o1 12 (.mv (.t 0)) 6,o1 13 (.mv (.t 5)) 7,o1 14 (.iaddr 1 (.t 12) (.t 13)) 8,o1 15 (.load 1 .false (.t 14)) 9,o1 16 (.mv (.t 1)) 10,o1 17 (.bin .eql (.t 15) (.t 16)) 11]) (.cond (.t 17) (.seq (.reg 12 1 [o1 4 (.mv (.k (.bool .true))) 12]) .ret) .skip)))
 (.reg 13 3 [o1 10 (.mv (.t 5)) 13,o1 11 (.bin .add (.t 10) (.k (.int .i64 1))) 14,o1 5 (.mv (.t 11)) 15])))))) (.seq (.reg 16 1 [o1 4 (.mv (.k (.bool .false))) 16]) .ret))
def rs24:List IRes:=[.tmp 4]
set_option maxRecDepth 100000 in
theorem comp24:Comp Try.prog 24 ir24 rs24 18:=⟨⟨_,_,17,Try.func24,rfl,by kernel_rfl,by kernel_rfl,rfl⟩⟩
theorem body24:HasBody Try.prog 24:=hasBody_of (by kernel_rfl)

def ir26:IC :=
 .seq (.reg 0 1 [o1 2 (.mv (.k (.int .i64 0))) 0]) (.seq (.reg 1 1 [o1 3 (.mv (.k (.int .i64 0))) 1])
 (.seq (.seq (.reg 2 1 [o1 4 (.mv (.k (.int .i64 0))) 2]) (.block 0 (.loop (.seq (.seq (.reg 3 4 [o1 5 (.mv (.t 4)) 3,o1 6 (.mv (.t 0)) 4,o1 7 (.len (.t 6)) 5,o1 8 (.bin .lss (.t 5) (.t 7)) 6]) (.cond (.t 8) .skip (.exit 0))) (.seq (.block 1 (.draw 7 14 [] [] [o3 11 (.mv (.t 3)) 7,o3 12 (.mv (.t 0)) 8,o3 13 (.mv (.t 4)) 9,o3 14 (.iaddr 3 (.t 12) (.t 13)) 10,o3 15 (.faddr 1 (.t 14)) 11,o3 16 (.load 1 .false (.t 15)) 12,o3 17 (.mv (.t 0)) 13,o3 18 (.mv (.t 4)) 14,o3 19 (.iaddr 3 (.t 17) (.t 18)) 15,o3 20 (.faddr 0 (.t 19)) 16,o3 21 (.load 1 .false (.t 20)) 17,o3 22 (.bin .sub (.t 16) (.t 21)) 18,o3 23 (.bin .add (.t 11) (.t 22)) 19,o3 3 (.mv (.t 23)) 20])) (.reg 21 3 [o1 9 (.mv (.t 4)) 21,o1 10 (.bin .add (.t 9) (.k (.int .i64 1))) 22,o1 4 (.mv (.t 10)) 23])))))) (.seq (.reg 24 2 [o1 24 (.mv (.t 3)) 24,o1 2 (.mv (.t 24)) 25]) .ret)))
def rs26:List IRes:=[.tmp 2]
set_option maxRecDepth 100000 in
theorem comp26:Comp Try.prog 26 ir26 rs26 25:=⟨⟨_,_,26,Try.func26,rfl,by kernel_rfl,by kernel_rfl,rfl⟩⟩
theorem body26:HasBody Try.prog 26:=hasBody_of (by kernel_rfl)

def ir27:IC :=
 .seq (.reg 0 1 [o1 2 (.mv (.k (.slice .none 0 0))) 0]) (.seq (.reg 1 4 [o1 3 (.bsl 3 1 0 [] []) 1,o1 4 (.mv (.t 0)) 2,o1 5 (.app 3 1 8 (.t 3) (.t 4)) 3,o1 2 (.mv (.t 5)) 4]) .ret)
def rs27:List IRes:=[.tmp 2]
set_option maxRecDepth 100000 in
theorem comp27:Comp Try.prog 27 ir27 rs27 6:=⟨⟨_,_,5,Try.func27,rfl,by kernel_rfl,by kernel_rfl,rfl⟩⟩
theorem body27:HasBody Try.prog 27:=hasBody_of (by kernel_rfl)

def ir29:IC :=
 .seq (.reg 0 1 [o1 4 (.mv (.k (.bool .false))) 0]) (.seq (.seq (.reg 1 5 [o1 6 (.mv (.t 0)) 1,o1 7 (.len (.t 6)) 2,o1 8 (.mv (.t 1)) 3,o1 9 (.len (.t 8)) 4,o1 10 (.bin .neq (.t 7) (.t 9)) 5]) (.cond (.t 10) (.seq (.reg 6 1 [o1 4 (.mv (.k (.bool .false))) 6]) .ret)
 .skip)) (.seq (.seq (.reg 7 1 [o1 5 (.mv (.k (.int .i64 0))) 7]) (.block 0 (.loop (.seq (.seq (.reg 8 4 [o1 11 (.mv (.t 5)) 8,o1 12 (.mv (.t 0)) 9,o1 13 (.len (.t 12)) 10,o1 14 (.bin .lss (.t 11) (.t 13)) 11]) (.cond (.t 14) .skip (.exit 0))) (.seq (.block 1 (.seq (.draw 12 9 [] [] [o3 17 (.mv (.t 0)) 12,o3 18 (.mv (.t 5)) 13,o3 19 (.iaddr 2 (.t 17) (.t 18)) 14,o3 20 (.load 2 .true (.t 19)) 15,o3 21 (.mv (.t 1)) 16,o3 22 (.mv (.t 5)) 17,o3 23 (.iaddr 2 (.t 21) (.t 22)) 18,o3 24 (.load 2 .true (.t 23)) 19,o3 25 (.pur (.bin .neq 79) [.t 20, .t 24]) 20]) (.cond (.t 25) (.seq (.reg 21 1 [o1 4 (.mv (.k (.bool .false))) 21]) .ret) .skip))) (.reg 22 3 [o1 15 (.mv (.t 5)) 22,o1 16 (.bin .add (.t 15) (.k (.int .i64 1))) 23,o1 5 (.mv (.t 16)) 24])))))) (.seq (.reg 25 1 [o1 4 (.mv (.k (.bool .true))) 25]) .ret)))
def rs29:List IRes:=[.tmp 4]
set_option maxRecDepth 100000 in
theorem comp29:Comp Try.prog 29 ir29 rs29 26:=⟨⟨_,_,26,Try.func29,rfl,by kernel_rfl,by kernel_rfl,rfl⟩⟩
theorem body29:HasBody Try.prog 29:=hasBody_of (by kernel_rfl)

def ir32:IC :=
 .seq (.reg 0 2 [o1 1 (.box 25 (.t 0)) 0,o1 2 (.mv (.k (.int .i64 0))) 1]) (.seq (.seq (.reg 2 10 [o1 9 (.faddr 0 (.t 1)) 2,o1 10 (.load 1 .false (.t 9)) 3,o1 11 (.len (.t 10)) 4,o1 12 (.bin .gtr (.t 11) (.k (.int .i64 60))) 5,o1 13 (.mv (.t 12)) 6, .mk (.some
 14) (.faddr 1 (.t 1)) (.some (13, .false)) 7 .none .false [] .false, .mk (.some 15) (.load 1 .false (.t 14)) (.some (13, .false)) 8 .none .false [] .false, .mk (.some 16) (.len
 (.t 15)) (.some (13, .false)) 9 .none .false [] .false, .mk (.some 17) (.bin .gtr (.t 16) (.k (.int .i64 12))) (.some (13, .false)) 10 .none .false [] .false,o1 18 (.pick (.t 13) (.k (.bool .true)) (.t 17)) 11]) (.cond (.t 18) (.seq (.reg 12 1 [o1 2 (.mv (.k (.int .i64 3))) 12]) .ret) .skip)) (.seq (.seq (.reg 13 1 [o1 3 (.mv (.k (.int .i64 0))) 13]) (.block 0 (.loop (.seq (.seq (.reg 14 5 [o1 19 (.mv (.t 3)) 14,o1 20 (.faddr 0 (.t 1)) 15,o1 21 (.load 1 .false (.t 20)) 16,o1 22 (.len (.t 21)) 17,o1 23 (.bin .lss (.t 19) (.t 22)) 18]) (.cond (.t 23) .skip (.exit
 0))) (.seq (.block 1 (.seq (.reg 19 8 [o1 26 (.faddr 0 (.t 1)) 19,o1 27 (.load 1 .false (.t 26)) 20,
 o1 28 (.mv (.t 3)) 21,o1 29 (.iaddr 2 (.t 27) (.t 28)) 22,o1 30 (.faddr 1 (.t 29)) 23,o1 31 (.load 1 .false (.t 30)) 24,o1 32 (.len (.t 31)) 25,o1 33 (.bin .gtr (.t 32) (.k (.int .i64 5))) 26]) (.cond (.t 33) (.seq (.reg 27 1 [o1 2 (.mv (.k (.int .i64 3))) 27])
 .ret) .skip))) (.reg 28 3 [o1 24 (.mv (.t 3)) 28,o1 25 (.bin .add (.t 24) (.k (.int .i64 1))) 29,o1 3 (.mv (.t 25)) 30])))))) (.seq (.seq (.reg 31 1 [o1 4 (.mv (.k (.int .i64 0))) 31]) (.block 2 (.loop
 (.seq (.seq (.reg 32 5 [o1 34 (.mv (.t 4)) 32,o1 35 (.faddr 0 (.t 1)) 33,o1 36 (.load 1 .false (.t 35)) 34,o1 37 (.len (.t 36)) 35,o1 38 (.bin .lss (.t 34) (.t 37)) 36]) (.cond (.t 38) .skip (.exit 2))) (.seq (.block 3 (.seq (.reg 37 7 [o1 41 (.faddr 0 (.t 1)) 37,o1 42 (.load 1 .false (.t 41)) 38,o1 43 (.mv (.t 4)) 39,o1 44 (.iaddr 2 (.t 42) (.t 43)) 40,o1 45 (.load 2 .true (.t 44)) 41, .mk (.some 5) (.alloc 82 [.string (ByteArray.mk (Array.mk [])), .slice .none 0 0]) .none 42 .none .false []
 .false,o2 (.store 2 (.t 5) (.t 45)) 43]) (.seq (.seq (.reg 44 11 [o1 46 (.faddr 0 (.t 5)) 44,o1 47 (.load 1 .false (.t 46)) 45,o1 48 (.lenS (.t 47)) 46,o1 49 (.call 53 [.t 48, .k (.int .i64 1), .k (.int .i64 20)]) 47,o1 50 (.un .not (.t 49)) 48,o1 51 (.mv (.t 50)) 49,
 .mk (.some 52) (.faddr 1 (.t 5)) (.some (51, .false)) 50 .none .false [] .false, .mk (.some 53) (.load 1 .false (.t 52)) (.some (51, .false)) 51 .none .false [] .false, .mk (.some
 54) (.call 60 [.t 53, .k (.int .i64 99)]) (.some (51, .false)) 52 .none .false [] .false, .mk (.some 55) (.un .not (.t 54)) (.some (51, .false)) 53 .none .false [] .false,o1 56 (.pick (.t 51) (.k (.bool .true)) (.t 55)) 54]) (.cond (.t 56) (.seq (.reg 55 1 [o1 2 (.mv (.k (.int .i64 1))) 55]) .ret) .skip)) (.seq (.reg 56 1 [o1 6 (.mv (.k (.int .i64 0))) 56]) (.block 4 (.loop (.seq (.seq (.reg 57 5 [o1 57 (.mv (.t 6)) 57,o1 58 (.faddr 0 (.t 5)) 58,o1 59 (.load 1 .false (.t 58)) 59,o1 60 (.lenS (.t 59)) 60,o1 61 (.bin .lss (.t 57) (.t 60)) 61]) (.cond (.t 61) .skip (.exit
 4))) (.seq (.block 5 (.seq (.reg 62 12 [o1 64 (.faddr 0 (.t 5)) 62,o1 65 (.load 1 .false (.t 64)) 63,
 o1 66 (.mv (.t 6)) 64,o1 67 (.pur (.idx 9) [.t 65, .t 66]) 65,o1 68 (.bin .lss (.t 67) (.k (.int .u8 33))) 66,o1 69 (.mv (.t 68)) 67, .mk (.some 70) (.faddr 0 (.t 5)) (.some (69, .false)) 68 .none
 .false [] .false, .mk (.some 71) (.load 1 .false (.t 70)) (.some (69, .false)) 69 .none .false [] .false, .mk (.some 72) (.mv (.t 6)) (.some (69, .false)) 70 .none .false []
 .false, .mk (.some 73) (.pur (.idx 9) [.t 71, .t 72]) (.some (69, .false)) 71 .none .false [] .false, .mk (.some 74) (.bin .gtr (.t 73) (.k (.int .u8 126))) (.some (69, .false))
 72 .none .false [] .false,o1 75 (.pick (.t 69) (.k (.bool .true)) (.t 74)) 73]) (.cond (.t 75) (.seq (.reg 74 1 [o1 2 (.mv (.k (.int .i64 1))) 74]) .ret) .skip))) (.reg 75 3 [o1 62 (.mv (.t 6)) 75,o1 63 (.bin .add (.t 62) (.k (.int .i64 1))) 76,o1 6 (.mv (.t 63)) 77]))))))))) (.reg 78 3 [o1 39 (.mv (.t 4)) 78,o1 40 (.bin .add (.t 39) (.k (.int .i64 1))) 79,o1 4 (.mv (.t 40)) 80])))))) (.seq
 (.seq (.reg 81 1 [o1 7 (.mv (.k (.int .i64 0))) 81]) (.block 6 (.loop (.seq (.seq (.reg 82 5 [o1 76 (.mv (.t 7)) 82,o1 77 (.faddr 1 (.t 1)) 83,o1 78 (.load 1 .false (.t 77)) 84,o1 79 (.len (.t 78)) 85,o1 80 (.bin .lss (.t 76) (.t 79)) 86]) (.cond (.t 80) .skip (.exit 6))) (.seq (.block 7 (.seq (.reg
 87 7 [o1 83 (.faddr 1 (.t 1)) 87,o1 84 (.load 1 .false (.t 83)) 88,o1 85 (.mv (.t 7)) 89,o1 86 (.iaddr 4 (.t 84) (.t 85)) 90,o1 87 (.load 4 .true (.t 86)) 91,o1 8 (.alloc 90 [.int .i64 0, .int .i64 0, .int .i64 0, .int .i64 0]) 92,o2 (.store 4 (.t 8) (.t 87)) 93])
 (.seq (.reg 94 28 [o1 88 (.faddr 1 (.t 8)) 94,o1 89 (.load 1 .false (.t 88)) 95,o1 90 (.faddr 0 (.t 1)) 96,o1 91 (.load 1 .false (.t 90)) 97,o1 92 (.len (.t 91)) 98,o1 93 (.call 53 [.t 89, .k (.int .i64 1), .t 92]) 99,o1 94 (.un .not (.t 93)) 100,o1 95 (.mv (.t 94)) 101, .mk (.some 96) (.faddr 0 (.t 8)) (.some (95, .false)) 102 .none .false [] .false, .mk (.some 97) (.load 1 .false (.t 96))
 (.some (95, .false)) 103 .none .false [] .false, .mk (.some 98) (.faddr 1 (.t 8)) (.some (95, .false)) 104 .none .false [] .false, .mk (.some 99) (.load 1 .false (.t 98)) (.some
 (95, .false)) 105 .none .false [] .false, .mk (.some 100) (.bin .sub (.t 99) (.k (.int .i64 1))) (.some (95, .false)) 106 .none .false [] .false, .mk (.some 101) (.call 53 [.t 97,
 .k (.int .i64 0), .t 100]) (.some (95, .false)) 107 .none .false [] .false, .mk (.some 102) (.un .not (.t 101)) (.some (95, .false)) 108 .none .false [] .false,o1 103 (.pick (.t 95) (.k (.bool .true)) (.t 102)) 109,o1 104 (.mv (.t 103)) 110, .mk (.some 105) (.faddr 2 (.t 8))
 (.some (104, .false)) 111 .none .false [] .false, .mk (.some 106) (.load 1 .false (.t 105)) (.some (104, .false)) 112 .none .false [] .false, .mk (.some 107) (.call 53 [.t 106, .k
 (.int .i64 0), .k (.int .i64 7)]) (.some (104, .false)) 113 .none .false [] .false, .mk (.some 108) (.un .not (.t 107)) (.some (104, .false)) 114 .none .false [] .false,o1 109 (.pick (.t 104) (.k (.bool .true)) (.t 108)) 115,o1 110 (.mv (.t 109)) 116, .mk (.some 111) (.faddr
 3 (.t 8)) (.some (110, .false)) 117 .none .false [] .false, .mk (.some 112) (.load 1 .false (.t 111)) (.some (110, .false)) 118 .none .false [] .false, .mk (.some 113) (.call 53
 [.t 112, .k (.int .i64 0), .k (.int .i64 9999)]) (.some (110, .false)) 119 .none .false [] .false, .mk (.some 114) (.un .not (.t 113)) (.some (110, .false)) 120 .none .false []
 .false,o1 115 (.pick (.t 110) (.k (.bool .true)) (.t 114)) 121]) (.cond (.t 115) (.seq (.reg 122 1 [o1 2 (.mv (.k (.int .i64 1))) 122]) .ret) .skip)))) (.reg 123 3 [o1 81 (.mv (.t 7)) 123,o1 82 (.bin .add (.t 81) (.k (.int .i64 1))) 124,o1 7 (.mv (.t 82)) 125])))))) (.seq (.seq (.reg 126 4 [o1 116 (.faddr 2 (.t 1)) 126,o1 117 (.load 1 .false (.t 116)) 127,o1 118 (.call 53 [.t 117, .k (.int .i64 1), .k (.int .i64 20)]) 128,o1 119 (.un .not (.t 118)) 129]) (.cond (.t 119) (.seq (.reg 130 1 [o1 2 (.mv (.k (.int .i64 1))) 130]) .ret) .skip)) (.seq (.reg 131 1 [o1 2 (.mv (.k (.int .i64 0))) 131]) .ret))))))
def rs32:List IRes:=[.tmp 2]
set_option maxRecDepth 100000 in
theorem comp32:Comp Try.prog 32 ir32 rs32 120:=⟨⟨_,_,132,Try.func32,rfl,by kernel_rfl,by kernel_rfl,rfl⟩⟩
theorem body32:HasBody Try.prog 32:=hasBody_of (by kernel_rfl)

def ir33:IC :=
 .seq (.reg 0 3 [o1 2 (.box 25 (.t 0)) 0,o1 3 (.box 28 (.t 1)) 1,o1 4 (.mv (.k (.slice .none 0 0))) 2]) (.seq (.reg 3 1 [o1 5 (.mv (.k (.slice .none 0 0))) 3]) (.seq (.seq (.reg 4 1 [o1 6 (.mv (.k (.int .i64 0))) 4]) (.block 0 (.loop (.seq (.seq (.reg 5 5 [o1 7 (.mv (.t 6)) 5,o1 8 (.faddr 0 (.t 2)) 6,o1 9 (.load 1 .false (.t 8)) 7,o1 10 (.len (.t 9)) 8,o1 11 (.bin .lss (.t 7) (.t 10)) 9]) (.cond (.t 11) .skip (.exit 0))) (.seq (.block 1 (.seq (.reg 10 5 [o1 14 (.load 3 .true (.t 2)) 10,o1 15 (.load 2 .true (.t 3)) 11,o1 16 (.mv (.t 6)) 12,o1 17 (.call 35 [.t 14, .t 15, .t 16]) 13,o1 18 (.un .not (.t 17)) 14]) (.cond (.t 18) (.reg 15 5 [o1 19 (.mv (.t 5)) 15,o1 20 (.mv (.t 6)) 16,o1 21 (.bsl 3 1 1 [.int .i64 0] [(0, .t 20)]) 17,o1 22 (.app 3 1 8 (.t 19) (.t 21)) 18,o1 5 (.mv (.t 22)) 19]) (.seq (.reg 20 12 [o1 23 (.mv (.t 5)) 20,o1 24 (.len (.t 23)) 21,o1 25 (.bin .eql (.t 24) (.k (.int .i64 0))) 22,o1 26 (.mv (.t 25)) 23, .mk (.some 27) (.mv (.t 5)) (.some (26, .false)) 24 .none .false [] .false, .mk (.some 28)
 (.mv (.t 5)) (.some (26, .false)) 25 .none .false [] .false, .mk (.some 29) (.len (.t 28)) (.some (26, .false)) 26 .none .false [] .false, .mk (.some 30) (.bin .sub (.t 29) (.k
 (.int .i64 1))) (.some (26, .false)) 27 .none .false [] .false, .mk (.some 31) (.iaddr 1 (.t 27) (.t 30)) (.some (26, .false)) 28 .none .false [] .false, .mk (.some 32) (.load 1
 .false (.t 31)) (.some (26, .false)) 29 .none .false [] .false, .mk (.some 33) (.bin .neq (.t 32) (.k (.int .i64 (-1)))) (.some (26, .false)) 30 .none .false [] .false,o1 34 (.pick (.t 26) (.k (.bool .true)) (.t 33)) 31]) (.cond (.t 34) (.reg 32 4 [o1 35 (.mv (.t 5)) 32,o1 36 (.bsl 3 1 1 [.int .i64 0] [(0, .k (.int .i64 (-1)))]) 33,o1 37 (.app 3 1 8 (.t 35) (.t 36)) 34,o1 5 (.mv (.t 37)) 35]) .skip))))) (.reg 36 3 [o1 12 (.mv (.t 6)) 36,o1 13 (.bin .add (.t 12) (.k (.int .i64 1))) 37,o1 6 (.mv (.t 13)) 38])))))) (.seq (.reg 39 2 [o1 38 (.mv (.t 5)) 39,o1 4 (.mv (.t 38)) 40]) .ret)))
def rs33:List IRes:=[.tmp 4]
set_option maxRecDepth 100000 in
theorem comp33:Comp Try.prog 33 ir33 rs33 39:=⟨⟨_,_,41,Try.func33,rfl,by kernel_rfl,by kernel_rfl,rfl⟩⟩
theorem body33:HasBody Try.prog 33:=hasBody_of (by kernel_rfl)

def ir34:IC :=
 .seq (.reg 0 3 [o1 2 (.box 25 (.t 0)) 0,o1 3 (.box 28 (.t 1)) 1,o1 4 (.mv (.k (.slice .none 0 0))) 2]) (.seq (.reg 3 1 [o1 5 (.mv (.k (.slice .none 0 0))) 3]) (.seq (.reg 4 4 [o1 9 (.load 3 .true (.t 2)) 4,o1 10 (.load 2 .true (.t 3)) 5,o1 11 (.call 33 [.t 9, .t 10]) 6,o1 6 (.mv (.t 11)) 7]) (.seq (.seq (.reg 8 1 [o1 7 (.mv (.k (.int .i64 0))) 8]) (.block 0
 (.loop (.seq (.seq (.reg 9 4 [o1 12 (.mv (.t 7)) 9,o1 13 (.mv (.t 6)) 10,o1 14 (.len (.t 13)) 11,o1 15 (.bin .lss (.t 12) (.t 14)) 12]) (.cond (.t 15) .skip (.exit 0))) (.seq (.block 1 (.seq (.reg 13
 8 [o1 18 (.mv (.t 7)) 13,o1 19 (.faddr 2 (.t 2)) 14,o1 20 (.load 1 .false (.t 19)) 15,o1 21 (.bin .quo (.t 18) (.t 20)) 16,o1 22 (.bin .add (.t 21) (.k (.int .i64 1))) 17, .mk (.some 23) (.bld [(0,1),(1,1)] [.string (ByteArray.mk (Array.mk [])), .int .i64 0] [(1, .t 22)]) .none 18 .none .false [] .false, .mk (.some 8) (.alloc 78 [.string
 (ByteArray.mk (Array.mk [])), .int .i64 0]) .none 19 .none .false [] .false,o2 (.store 2 (.t 8) (.t 23)) 20]) (.seq (.seq (.reg 21 5 [o1 24 (.mv (.t 6)) 21,o1 25 (.mv (.t 7)) 22,o1 26 (.iaddr 1 (.t 24) (.t 25)) 23,o1 27 (.load 1 .false (.t 26)) 24,o1 28 (.bin .geq (.t 27) (.k (.int .i64 0))) 25])
 (.cond (.t 28) (.draw 26 11 [] [] [o3 29 (.faddr 0 (.t 2)) 26,o3 30 (.load 1 .false (.t 29)) 27,o3 31 (.mv (.t 6)) 28,o3 32 (.mv (.t 7)) 29,o3 33 (.iaddr 1 (.t 31) (.t 32)) 30,o3 34 (.load 1 .false (.t 33)) 31,o3 35 (.iaddr 2 (.t 30) (.t 34)) 32,o3 36 (.faddr 0 (.t 35)) 33,o3 37 (.load 1 .false (.t 36)) 34,o3 38 (.faddr 0 (.t 8)) 35,o4 (.store 1 (.t 38) (.t 37)) 36]) .skip)) (.reg 37 5 [o1 39 (.mv (.t 5)) 37,o1 40 (.load 2 .true (.t 8)) 38, .mk (.some 41) (.bsl 78 2 1 [.string (ByteArray.mk (Array.mk [])), .int
 .i64 0] [(0, .t 40)]) .none 39 .none .false [] .false,o1 42 (.app 78 2 24 (.t 39) (.t 41)) 40,o1 5 (.mv (.t 42)) 41])))) (.reg 42 3 [o1 16 (.mv (.t 7)) 42,o1 17 (.bin .add (.t 16) (.k (.int .i64 1))) 43,o1 7 (.mv (.t 17)) 44])))))) (.seq (.reg 45 2 [o1 43 (.mv (.t 5)) 45,o1 4 (.mv (.t 43)) 46]) .ret))))
def rs34:List IRes:=[.tmp 4]
set_option maxRecDepth 100000 in
theorem comp34:Comp Try.prog 34 ir34 rs34 44:=⟨⟨_,_,47,Try.func34,rfl,by kernel_rfl,by kernel_rfl,rfl⟩⟩
theorem body34:HasBody Try.prog 34:=hasBody_of (by kernel_rfl)

def ir35:IC :=
 .seq (.reg 0 3 [o1 3 (.box 25 (.t 0)) 0,o1 4 (.box 28 (.t 1)) 1,o1 6 (.mv (.k (.bool .false))) 2]) (.seq (.seq (.reg 3 1 [o1 7 (.mv (.k (.int .i64 0))) 3]) (.block 0 (.loop (.seq (.seq (.reg 4 5 [o1 8 (.mv (.t 7)) 4,o1 9 (.faddr 1 (.t 3)) 5,o1 10 (.load 1 .false (.t 9)) 6,o1 11 (.len (.t 10)) 7,o1 12 (.bin .lss (.t 8) (.t 11)) 8]) (.cond (.t 12) .skip (.exit 0)))
 (.seq (.block 1 (.seq (.draw 9 24 [2,4] [] [o3 15 (.faddr 1 (.t 3)) 9,o3 16 (.load 1 .false (.t 15)) 10,o3 17 (.mv (.t 7)) 11,o3 18 (.iaddr 4 (.t 16) (.t 17)) 12,o3 19 (.load 4 .true (.t 18)) 13,o3 20 (.load 2 .true (.t 4)) 14,o3 21 (.call 41 [.t 19, .t 20]) 15, .mk (.some 22) (.mv (.t 21)) .none 16 (.some [15]) .true [] .false, .mk (.some 23) (.mv (.t 2)) (.some (22, .true)) 17 (.some [15]) .true [] .false,
 .mk (.some 24) (.faddr 1 (.t 3)) (.some (22, .true)) 18 (.some [15]) .true [] .false, .mk (.some 25) (.load 1 .false (.t 24)) (.some (22, .true)) 19 (.some [15]) .false [] .false,
 .mk (.some 26) (.mv (.t 7)) (.some (22, .true)) 20 (.some [15]) .true [] .false, .mk (.some 27) (.iaddr 4 (.t 25) (.t 26)) (.some (22, .true)) 21 (.some [15]) .true [] .false, .mk
 (.some 28) (.faddr 0 (.t 27)) (.some (22, .true)) 22 (.some [15]) .true [] .false, .mk (.some 29) (.load 1 .false (.t 28)) (.some (22, .true)) 23 (.some [15]) .false [] .false,
 .mk (.some 30) (.faddr 1 (.t 3)) (.some (22, .true)) 24 (.some [15]) .true [] .false, .mk (.some 31) (.load 1 .false (.t 30)) (.some (22, .true)) 25 (.some [15]) .false [] .false,
 .mk (.some 32) (.mv (.t 7)) (.some (22, .true)) 26 (.some [15]) .true [] .false, .mk (.some 33) (.iaddr 4 (.t 31) (.t 32)) (.some (22, .true)) 27 (.some [15]) .true [] .false, .mk
 (.some 34) (.faddr 1 (.t 33)) (.some (22, .true)) 28 (.some [15]) .true [] .false, .mk (.some 35) (.load 1 .false (.t 34)) (.some (22, .true)) 29 (.some [15]) .false [] .false,
 .mk (.some 36) (.bin .sub (.t 35) (.k (.int .i64 1))) (.some (22, .true)) 30 (.some [15]) .true [] .false, .mk (.some 37) (.call 53 [.t 23, .t 29, .t 36]) (.some (22, .true)) 31
 (.some [15]) .false [] .false, .mk (.some 38) (.pick (.t 22) (.t 37) (.k (.bool .false))) .none 32 (.some [31,15]) .true [] .false]) (.cond (.t 38) (.seq (.reg 33 1 [o1 6 (.mv (.k (.bool .true))) 33]) .ret) .skip))) (.reg 34 3 [o1 13 (.mv (.t 7)) 34,o1 14 (.bin .add (.t 13) (.k (.int .i64 1))) 35,o1 7 (.mv (.t 14)) 36])))))) (.seq (.reg 37 1 [o1 6 (.mv (.k (.bool .false))) 37]) .ret))
def rs35:List IRes:=[.tmp 6]
set_option maxRecDepth 100000 in
theorem comp35:Comp Try.prog 35 ir35 rs35 39:=⟨⟨_,_,38,Try.func35,rfl,by kernel_rfl,by kernel_rfl,rfl⟩⟩
theorem body35:HasBody Try.prog 35:=hasBody_of (by kernel_rfl)

def ir38:IC :=
 .seq (.reg 0 1 [o1 4 (.mv (.k (.bool .false))) 0]) (.seq (.seq (.reg 1 5 [o1 6 (.mv (.t 0)) 1,o1 7 (.len (.t 6)) 2,o1 8 (.mv (.t 1)) 3,o1 9 (.len (.t 8)) 4,o1 10 (.bin .neq (.t 7) (.t 9)) 5]) (.cond (.t 10) (.seq (.reg 6 1 [o1 4 (.mv (.k (.bool .false))) 6]) .ret)
 .skip)) (.seq (.seq (.reg 7 1 [o1 5 (.mv (.k (.int .i64 0))) 7]) (.block 0 (.loop (.seq (.seq (.reg 8 4 [o1 11 (.mv (.t 5)) 8,o1 12 (.mv (.t 0)) 9,o1 13 (.len (.t 12)) 10,o1 14 (.bin .lss (.t 11) (.t 13)) 11]) (.cond (.t 14) .skip (.exit 0))) (.seq (.block 1 (.seq (.draw 12 9 [] [] [o3 17 (.mv (.t 0)) 12,o3 18 (.mv (.t 5)) 13,o3 19 (.iaddr 1 (.t 17) (.t 18)) 14,o3 20 (.load 1 .false (.t 19)) 15,o3 21 (.mv (.t 1)) 16,o3 22 (.mv (.t 5)) 17,o3 23 (.iaddr 1 (.t 21) (.t 22)) 18,o3 24 (.load 1 .false (.t 23)) 19,o3 25 (.bin .neq (.t 20) (.t 24)) 20]) (.cond (.t 25) (.seq (.reg 21 1 [o1 4 (.mv (.k (.bool .false))) 21]) .ret)
 .skip))) (.reg 22 3 [o1 15 (.mv (.t 5)) 22,o1 16 (.bin .add (.t 15) (.k (.int .i64 1))) 23,o1 5 (.mv (.t 16)) 24])))))) (.seq (.reg 25 1 [o1 4 (.mv (.k (.bool .true))) 25]) .ret)))
def rs38:List IRes:=[.tmp 4]
set_option maxRecDepth 100000 in
theorem comp38:Comp Try.prog 38 ir38 rs38 26:=⟨⟨_,_,26,Try.func38,rfl,by kernel_rfl,by kernel_rfl,rfl⟩⟩
theorem body38:HasBody Try.prog 38:=hasBody_of (by kernel_rfl)

def ir41:IC :=
 .seq (.reg 0 3 [o1 2 (.box 90 (.t 0)) 0,o1 3 (.box 28 (.t 1)) 1,o1 4 (.mv (.k (.bool .false))) 2]) (.seq (.reg 3 14 [o1 5 (.faddr 0 (.t 3)) 3,o1 6 (.load 1 .false (.t 5)) 4,o1 7 (.faddr 3 (.t 2)) 5,o1 8 (.load 1 .false (.t 7)) 6,o1 9 (.bin .lss (.t 6) (.t 8)) 7,o1 10 (.mv (.t 9)) 8, .mk (.some 11) (.faddr 1 (.t 3)) (.some (10, .true)) 9 .none .false [] .false, .mk
 (.some 12) (.load 1 .false (.t 11)) (.some (10, .true)) 10 .none .false [] .false, .mk (.some 13) (.faddr 2 (.t 2)) (.some (10, .true)) 11 .none .false [] .false, .mk (.some 14)
 (.load 1 .false (.t 13)) (.some (10, .true)) 12 .none .false [] .false, .mk (.some 15) (.call 24 [.t 12, .t 14]) (.some (10, .true)) 13 .none .false [] .false, .mk (.some 16) (.un
 .not (.t 15)) (.some (10, .true)) 14 .none .false [] .false,o1 17 (.pick (.t 10) (.t 16) (.k (.bool .false))) 15,o1 4 (.mv (.t 17)) 16]) .ret)
def rs41:List IRes:=[.tmp 4]
set_option maxRecDepth 100000 in
theorem comp41:Comp Try.prog 41 ir41 rs41 18:=⟨⟨_,_,17,Try.func41,rfl,by kernel_rfl,by kernel_rfl,rfl⟩⟩
theorem body41:HasBody Try.prog 41:=hasBody_of (by kernel_rfl)

def ir49:IC :=
 .seq (.reg 0 2 [o1 1 (.box 28 (.t 0)) 0,o1 2 (.mv (.k (.bool .false))) 1]) (.seq (.reg 2 9 [o1 3 (.faddr 0 (.t 1)) 2,o1 4 (.load 1 .false (.t 3)) 3,o1 5 (.call 53 [.t 4, .k (.int .i64 0), .k (.int .i64 9999)]) 4,o1 6 (.mv (.t 5)) 5, .mk (.some 7) (.faddr 1 (.t 1)) (.some (6, .true)) 6 .none .false []
 .false, .mk (.some 8) (.load 1 .false (.t 7)) (.some (6, .true)) 7 .none .false [] .false, .mk (.some 9) (.call 60 [.t 8, .k (.int .i64 7)]) (.some (6, .true)) 8 .none .false []
 .false,o1 10 (.pick (.t 6) (.t 9) (.k (.bool .false))) 9,o1 2 (.mv (.t 10)) 10]) .ret)
def rs49:List IRes:=[.tmp 2]
set_option maxRecDepth 100000 in
theorem comp49:Comp Try.prog 49 ir49 rs49 11:=⟨⟨_,_,11,Try.func49,rfl,by kernel_rfl,by kernel_rfl,rfl⟩⟩
theorem body49:HasBody Try.prog 49:=hasBody_of (by kernel_rfl)

def ir53:IC :=
 .seq (.reg 0 1 [o1 6 (.mv (.k (.bool .false))) 0]) (.seq (.reg 1 9 [o1 7 (.mv (.t 0)) 1,o1 8 (.mv (.t 1)) 2,o1 9 (.bin .geq (.t 7) (.t 8)) 3,o1 10 (.mv (.t 9)) 4,
 .mk (.some 11) (.mv (.t 0)) (.some (10, .true)) 5 .none .false [] .false, .mk (.some 12) (.mv (.t 2)) (.some (10, .true)) 6 .none .false [] .false, .mk (.some 13) (.bin .leq (.t
 11) (.t 12)) (.some (10, .true)) 7 .none .false [] .false,o1 14 (.pick (.t 10) (.t 13) (.k (.bool .false))) 8,o1 6 (.mv (.t 14)) 9]) .ret)
def rs53:List IRes:=[.tmp 6]
set_option maxRecDepth 100000 in
theorem comp53:Comp Try.prog 53 ir53 rs53 15:=⟨⟨_,_,10,Try.func53,rfl,by kernel_rfl,by kernel_rfl,rfl⟩⟩
theorem body53:HasBody Try.prog 53:=hasBody_of (by kernel_rfl)

def ir60:IC :=
 .seq (.reg 0 1 [o1 4 (.mv (.k (.bool .false))) 0]) (.seq (.seq (.reg 1 1 [o1 5 (.mv (.k (.int .i64 0))) 1]) (.block 0 (.loop (.seq (.seq (.reg 2 4 [o1 6 (.mv (.t 5)) 2,o1 7 (.mv (.t 0)) 3,o1 8 (.len (.t 7)) 4,o1 9 (.bin .lss (.t 6) (.t 8)) 5]) (.cond (.t 9) .skip (.exit 0))) (.seq (.block 1 (.seq
 (.draw 6 23 [1] [] [o3 12 (.mv (.t 0)) 6,o3 13 (.mv (.t 5)) 7,o3 14 (.iaddr 1 (.t 12) (.t 13)) 8,o3 15 (.load 1 .false (.t 14)) 9,o3 16 (.mv (.t 1)) 10,o3 17 (.call 53 [.t 15, .k (.int .i64 0), .t 16]) 11, .mk (.some 18) (.un .not (.t 17)) .none 12 (.some [11]) .true [] .false,
 .mk (.some 19) (.mv (.t 18)) .none 13 (.some [11]) .true [] .false, .mk (.some 20) (.mv (.t 5)) (.some (19, .false)) 14 (.some [11]) .true [] .false, .mk (.some 21) (.bin .gtr (.t
 20) (.k (.int .i64 0))) (.some (19, .false)) 15 (.some [11]) .true [] .false, .mk (.some 22) (.mv (.t 21)) (.some (19, .false)) 16 (.some [11]) .true [] .false, .mk (.some 23)
 (.mv (.t 0)) (.some (22, .true)) 17 (.some [11]) .true [] .false, .mk (.some 24) (.mv (.t 5)) (.some (22, .true)) 18 (.some [11]) .true [] .false, .mk (.some 25) (.iaddr 1 (.t 23)
 (.t 24)) (.some (22, .true)) 19 (.some [11]) .true [] .false, .mk (.some 26) (.load 1 .false (.t 25)) (.some (22, .true)) 20 (.some [11]) .false [] .false, .mk (.some 27) (.mv (.t
 0)) (.some (22, .true)) 21 (.some [11]) .true [] .false, .mk (.some 28) (.mv (.t 5)) (.some (22, .true)) 22 (.some [11]) .true [] .false, .mk (.some 29) (.bin .sub (.t 28) (.k
 (.int .i64 1))) (.some (22, .true)) 23 (.some [11]) .true [] .false, .mk (.some 30) (.iaddr 1 (.t 27) (.t 29)) (.some (22, .true)) 24 (.some [11]) .true [] .false, .mk (.some 31)
 (.load 1 .false (.t 30)) (.some (22, .true)) 25 (.some [11]) .false [] .false, .mk (.some 32) (.bin .leq (.t 26) (.t 31)) (.some (22, .true)) 26 (.some [11]) .true [] .false, .mk
 (.some 33) (.pick (.t 22) (.t 32) (.k (.bool .false))) (.some (19, .false)) 27 (.some [11]) .true [] .false, .mk (.some 34) (.pick (.t 19) (.k (.bool .true)) (.t 33)) .none 28
 (.some [11]) .true [] .false]) (.cond (.t 34) (.seq (.reg 29 1 [o1 4 (.mv (.k (.bool .false))) 29]) .ret) .skip))) (.reg 30 3 [o1 10 (.mv (.t 5)) 30,o1 11 (.bin .add (.t 10) (.k (.int .i64 1))) 31,o1 5 (.mv (.t 11)) 32])))))) (.seq (.reg 33 1 [o1 4 (.mv (.k (.bool .true))) 33]) .ret))
def rs60:List IRes:=[.tmp 4]
set_option maxRecDepth 100000 in
theorem comp60:Comp Try.prog 60 ir60 rs60 35:=⟨⟨_,_,34,Try.func60,rfl,by kernel_rfl,by kernel_rfl,rfl⟩⟩
theorem body60:HasBody Try.prog 60:=hasBody_of (by kernel_rfl)

end Go.Proofs.Ytpcpjmplgladmaa

namespace Go.Proofs.Ytpcpjmplgladmaa
open Go.Pal
def ir15:IC :=
 .seq (.reg 1 4 [o1 2 (.box 38 (.t 0)) 1,o1 3 (.box 40 (.t 1)) 2,o1 4 (.mv (.k (.slice .none 0 0))) 3,o1 5 (.mv (.k (.int .i64 0))) 4]) (.seq (.reg 5 9 [o1 17 (.load 3 .true (.t 2)) 5,o1 18 (.load 2 .true (.t 3)) 6,o1 19 (.call 44 [.t 17, .t 18]) 7,o1 16 (.mv (.t 19)) 8,o1 20 (.ext (.t 16) 0) 9,o1 21 (.ext (.t 16) 1) 10,o1 6 (.alloc 97 [.slice .none 0 0, .slice .none 0 0, .int .i64 0, .int .i64 0, .slice .none 0 0, .bool .false, .bool .false, .bool .false, .bool .false, .bool .false, .bool .false, .bool .false, .bool .false, .bool .false, .bool .false, .bool .false, .bool .false, .bool .false, .bool .false, .bool .false, .bool .false, .bool .false, .bool .false, .bool .false, .bool .false, .bool .false, .bool .false, .bool .false, .bool .false, .bool .false, .bool .false, .bool .false, .bool .false, .bool .false, .bool .false, .bool .false, .bool .false, .bool .false, .bool .false, .bool .false, .bool .false, .bool .false, .bool .false, .bool .false, .bool .false, .bool .false, .bool .false, .bool .false, .bool .false, .bool .false, .bool .false, .bool .false, .bool .false, .bool .false, .bool .false, .bool .false, .bool .false, .bool .false, .bool .false, .bool .false, .bool .false, .bool .false, .bool .false, .bool .false, .bool .false]) 11,o2 (.store 65 (.t 6) (.t 20)) 12,o1 7 (.mv (.t 21)) 13]) (.seq (.seq (.reg 14 2 [o1 22 (.mv (.t 7)) 14,o1 23 (.bin .neq (.t 22) (.k (.int .i64 0))) 15]) (.cond (.t 23) (.seq (.reg 16 3 [o1 24 (.mv (.t 7)) 16,o1 4 (.mv (.k (.slice .none 0 0))) 17,o1 5 (.mv (.t 24)) 18]) .ret) .skip)) (.seq (.reg 19 3 [o1 25 .mkm 19,o1 8 (.alloc 100 [.map .none]) 20,o2 (.store 1 (.t 8) (.t 25)) 21]) (.seq (.seq (.reg 22 2 [o1 26 (.load 65 .true (.t 6)) 22,o1 27 (.call 45 [.t 26]) 23]) (.block 0 (.range (.t 27) [28,29] (.seq
 (.reg 24 1 [o1 9 (.mv (.t 28)) 24]) (.reg 25 2 [.mk (.some 10) (.alloc 79 [.string (ByteArray.mk (Array.mk [])), .int .i64 0]) .none 25 .none
 .false [] .false,o2 (.store 2 (.t 10) (.t 29)) 26])) (.block 1 (.seq (.seq (.reg 27 2 [o1 30 (.mv (.t 9)) 27,o1 31 (.bin .eql (.t 30) (.k (.int .i64 (-1)))) 28]) (.cond (.t 31) (.exit 1) .skip)) (.seq (.reg 29 9 [o1 32 (.faddr 0 (.t 6)) 29,o1 33 (.faddr 0 (.t 32)) 30,o1 34 (.load 1 .false (.t 33)) 31,
 o1 35 (.mv (.t 9)) 32,o1 36 (.iaddr 2 (.t 34) (.t 35)) 33,o1 37 (.faddr 1 (.t 36)) 34,o1 38 (.load 1 .false (.t 37)) 35,o1 39 (.len (.t 38)) 36,o1 40 (.mv (.k (.int .i64 0))) 37]) (.block 2 (.loop (.seq (.reg 38 1 [o1 41 (.bin .lss (.t 40) (.t 39)) 38]) (.seq (.cond
 (.t 41) .skip (.exit 2)) (.seq (.block 3 (.seq (.reg 39 3 [o1 42 (.iaddr 1 (.t 38) (.t 40)) 39,o1 43 (.load 1 .false (.t 42)) 40,o1 12 (.mv (.t 43)) 41]) (.seq (.reg 42 7 [o1 44 (.load 1 .false (.t 8)) 42,
 o1 45 (.mv (.t 12)) 43,o1 46 (.lkp 3 (.slice .none 0 0) .false (.t 44) (.t 45)) 44,o1 47 (.faddr 1 (.t 10)) 45,o1 48 (.load 1 .false (.t 47)) 46,o1 49 (.call 46 [.t 46, .t 48]) 47,o1 50 (.un .not (.t 49)) 48]) (.cond (.t 50) (.drawd 49 10 [] [] [] [.some [8], .none, .some [8], .none, .none,
 .none, .some [10], .none, .none, .none] [(0,o3 51 (.load 1 .false (.t 8)) 49),(1,o3 52 (.mv (.t 12)) 50),(2,o3 53 (.load 1 .false (.t 8)) 51),(3,o3 54 (.mv (.t 12)) 52),(4, .mk
 (.some 55) (.lkp 3 (.slice .none 0 0) .false (.t 53) (.t 54)) .none 53 (.some []) .true [3,2] .false),(5,o3 56 (.faddr 1 (.t 10)) 54),
 (6, .mk (.some 57) (.load 1 .false (.t 56)) .none 55 (.some []) .true [5] .false),(7, .mk (.some 58) (.bsl 3 1 1 [.int .i64 0] [(0, .t 57)]) .none 56 (.some []) .true [5,6]
 .false),(8, .mk (.some 59) (.apph 3 1 8 (.t 55) (.t 58)) .none 57 (.some [0,56]) .true [6,5,7,2,3,4] .true),(9, .mk .none (.mup 3 (.t 51) (.t 52) (.t 59)) .none 58 (.some
 [56]) .true [4,3,2,7,5,6,8,1,0] .false)]) .skip)))) (.reg 59 2 [o1 60 (.bin .add (.t 40) (.k (.int .i64 1))) 59,o1 40 (.mv (.t 60)) 60])))))))))))) (.seq (.reg 61 1 [o1 13 (.mv (.k (.slice .none 0 0))) 61]) (.seq (.seq (.reg 62 5 [o1 61 (.load 1 .false (.t 8)) 62,o1 62 (.call 48 [.t 61]) 63,o1 63 (.call 47 [.t 62]) 64,o1 64 (.len (.t 63)) 65,o1 65 (.mv (.k (.int .i64 0))) 66]) (.block 4 (.loop
 (.seq (.reg 67 1 [o1 66 (.bin .lss (.t 65) (.t 64)) 67]) (.seq (.cond (.t 66) .skip (.exit 4)) (.seq (.block 5 (.seq (.reg 68 3 [o1 67 (.iaddr 1 (.t 63) (.t 65)) 68,o1 68 (.load 1 .false (.t 67)) 69,o1 15 (.mv (.t 68)) 70]) (.reg 71 9 [o1 69 (.mv (.t 13)) 71,o1 70 (.mv (.t 15)) 72,o1 71 (.load 1 .false (.t 8)) 73,o1 72 (.mv (.t 15)) 74,o1 73 (.lkp 3 (.slice .none 0 0) .false (.t 71) (.t 72)) 75,o1 74 (.bld [(0,1),(1,1)] [.int .i64 0, .slice .none 0 0] [(0, .t 70),(1, .t 73)]) 76,o1 75 (.bsl 47 2 1 [.int .i64 0, .slice .none 0 0] [(0, .t 74)]) 77,o1 76 (.app 47 2 32 (.t 69) (.t 75)) 78,o1 13 (.mv (.t 76)) 79]))) (.reg 80 2 [o1 77 (.bin .add (.t 65) (.k (.int .i64 1))) 80,o1 65 (.mv (.t 77)) 81]))))))) (.seq (.reg 82 3 [o1 78 (.mv (.t 13)) 82,o1 4 (.mv (.t 78)) 83,o1 5 (.mv (.k (.int .i64 0))) 84]) .ret)))))))
def rs15:List IRes:=[.tmp 4, .tmp 5]
set_option maxRecDepth 100000 in
theorem comp15:CompAt Try.prog 15 1 ir15 rs15 79:=⟨⟨_,_,85,Try.func15,rfl,by kernel_rfl,by kernel_rfl,rfl⟩⟩
theorem body15:HasBody Try.prog 15:=hasBody_of (by kernel_rfl)

def ir21:IC :=
 .seq (.reg 0 4 [o1 2 (.box 38 (.t 0)) 0,o1 3 (.box 40 (.t 1)) 1,o1 4 (.mv (.k (.slice .none 0 0))) 2,o1 5 (.mv (.k (.int .i64 0))) 3]) (.seq (.reg 4 9 [o1 14 (.load 3 .true (.t 2)) 4,o1 15 (.load 2 .true (.t 3)) 5,o1 16 (.call 44 [.t 14, .t 15]) 6,o1 13 (.mv (.t 16)) 7,o1 17 (.ext (.t 13) 0) 8,o1 18 (.ext (.t 13) 1) 9,o1 6 (.alloc 97 [.slice .none 0 0, .slice .none 0 0, .int .i64 0, .int .i64 0, .slice .none 0 0, .bool .false, .bool .false, .bool .false, .bool .false, .bool .false, .bool .false, .bool .false, .bool .false, .bool .false, .bool .false, .bool .false, .bool .false, .bool .false, .bool .false, .bool .false, .bool .false, .bool .false, .bool .false, .bool .false, .bool .false, .bool .false, .bool .false, .bool .false, .bool .false, .bool .false, .bool .false, .bool .false, .bool .false, .bool .false, .bool .false, .bool .false, .bool .false, .bool .false, .bool .false, .bool .false, .bool .false, .bool .false, .bool .false, .bool .false, .bool .false, .bool .false, .bool .false, .bool .false, .bool .false, .bool .false, .bool .false, .bool .false, .bool .false, .bool .false, .bool .false, .bool .false, .bool .false, .bool .false, .bool .false, .bool .false, .bool .false, .bool .false, .bool .false, .bool .false, .bool .false]) 10,o2 (.store 65 (.t 6) (.t 17)) 11,o1 7 (.mv (.t 18)) 12]) (.seq (.seq (.reg 13 2 [o1 19 (.mv (.t 7)) 13,o1 20 (.bin .neq (.t 19) (.k (.int .i64 0))) 14]) (.cond (.t 20) (.seq (.reg 15 3 [o1 21 (.mv (.t 7)) 15,o1 4 (.mv (.k (.slice .none 0 0))) 16,o1 5 (.mv (.t 21)) 17]) .ret) .skip)) (.seq (.reg 18 1 [o1 8 (.mv (.k (.slice .none 0 0))) 18]) (.seq (.seq (.reg 19 5 [o1 22 (.faddr 0 (.t 6)) 19,o1 23 (.faddr 0 (.t 22)) 20,o1 24 (.load 1 .false (.t 23)) 21,o1 25 (.len (.t 24)) 22,o1 26 (.mv (.k (.int .i64 0))) 23]) (.block 0 (.loop (.seq (.reg 24 1 [o1 27 (.bin .lss (.t 26) (.t 25)) 24]) (.seq (.cond (.t 27)
 .skip (.exit 0)) (.seq (.block 1 (.seq (.reg 25 2 [o1 28 (.mv (.t 26)) 25,o1 9 (.mv (.t 28)) 26])
 (.seq (.block 2 (.seq (.reg 27 6 [o1 30 (.mv (.t 9)) 27,o1 31 (.faddr 5 (.t 6)) 28,o1 32 (.aaddr 1 60 (.t 31) (.t 30)) 29,o1 33 (.load 1 .false (.t 32)) 30,o1 34 (.un .not (.t 33)) 31,o1 29 (.mv (.t 34)) 32]) (.cond (.t 29) (.exit 1) (.seq (.reg 33 11 [o1 36 (.mv (.t 9)) 33,o1 37 (.bin .eql (.t 36) (.k (.int .i64 0))) 34,o1 38 (.mv (.t 37)) 35, .mk (.some
 39) (.mv (.t 9)) (.some (38, .false)) 36 .none .false [] .false, .mk (.some 40) (.bin .sub (.t 39) (.k (.int .i64 1))) (.some (38, .false)) 37 .none .false [] .false, .mk (.some
 41) (.faddr 5 (.t 6)) (.some (38, .false)) 38 .none .false [] .false, .mk (.some 42) (.aaddr 1 60 (.t 41) (.t 40)) (.some (38, .false)) 39 .none .false [] .false, .mk (.some 43)
 (.load 1 .false (.t 42)) (.some (38, .false)) 40 .none .false [] .false, .mk (.some 44) (.un .not (.t 43)) (.some (38, .false)) 41 .none .false [] .false,o1 45 (.pick (.t 38) (.k (.bool .true)) (.t 44)) 42,o1 35 (.mv (.t 45)) 43]) (.cond (.t 35) (.reg 44 6 [o1 46 (.mv (.t 8)) 44,o1 47 (.mv (.t 9)) 45,o1 48 (.bld [(0,1),(1,1),(2,1)] [.int .i64 0, .int .i64 0, .int .i64 0] [(0, .t 47)]) 46,o1 49 (.bsl 55 3 1 [.int .i64 0, .int .i64 0, .int .i64 0] [(0, .t 48)]) 47,o1 50 (.app 55 3 24 (.t 46) (.t 49)) 48,o1 8 (.mv (.t 50)) 49]) .skip))))) (.seq (.reg 50 6 [o1 51 (.mv (.t 8)) 50,o1 52 (.mv (.t 8)) 51,o1 53 (.len (.t 52)) 52,o1 54 (.bin .sub (.t 53) (.k (.int .i64 1))) 53,o1 55 (.iaddr 3 (.t 51) (.t 54)) 54,o1 10 (.mv (.t 55)) 55]) (.seq (.reg 56 6 [o1 56 (.mv (.t 10)) 56,o1 57 (.mv (.t 9)) 57,o1 58 (.bin .add (.t 57) (.k (.int .i64 1))) 58,o1 59 (.nilc (.t 56)) 59,o1 60 (.faddr 1 (.t 59)) 60,o2 (.store 1 (.t 60) (.t 58)) 61]) (.seq (.reg 62 5 [o1 61 (.faddr 0 (.t 6)) 62,o1 62 (.faddr 1 (.t 61)) 63,o1 63 (.load 1 .false (.t 62)) 64,o1 64 (.len (.t 63)) 65,o1 65 (.mv (.k (.int .i64 0))) 66]) (.block 3 (.loop (.seq (.reg 67 1 [o1 66 (.bin .lss (.t 65) (.t 64)) 67]) (.seq (.cond (.t 66) .skip (.exit 3)) (.seq (.block 4 (.seq (.reg 68 4 [o1 67 (.iaddr 4 (.t 63) (.t 65)) 68,o1 68 (.load 4 .true (.t 67)) 69,o1 12 (.alloc 65 [.int .i64 0, .int .i64 0, .int .i64 0, .int .i64 0]) 70,o2 (.store 4 (.t 12) (.t 68)) 71]) (.seq (.reg 72 12 [o1 69 (.load 65 .true (.t 6)) 72,o1 70 (.load 4 .true (.t 12)) 73,o1 71 (.call 50 [.t 69, .t 70]) 74,o1 72 (.mv (.t 71)) 75, .mk (.some 73) (.mv (.t 9)) (.some (72, .true)) 76 .none .false [] .false, .mk (.some 74) (.faddr 0 (.t 12)) (.some (72,
 .true)) 77 .none .false [] .false, .mk (.some 75) (.load 1 .false (.t 74)) (.some (72, .true)) 78 .none .false [] .false, .mk (.some 76) (.faddr 1 (.t 12)) (.some (72, .true)) 79
 .none .false [] .false, .mk (.some 77) (.load 1 .false (.t 76)) (.some (72, .true)) 80 .none .false [] .false, .mk (.some 78) (.bin .sub (.t 77) (.k (.int .i64 1))) (.some (72,
 .true)) 81 .none .false [] .false, .mk (.some 79) (.call 51 [.t 73, .t 75, .t 78]) (.some (72, .true)) 82 .none .false [] .false,o1 80 (.pick (.t 72) (.t 79) (.k (.bool .false))) 83]) (.cond (.t 80) (.draw 84 12 [] [] [o3 81 (.mv (.t 10)) 84,o3 82 (.mv (.t 10)) 85,o3 83 (.nilc (.t 82)) 86,o3 84 (.faddr 2 (.t 83)) 87,o3 85 (.load 1 .false (.t 84)) 88,o3 86 (.faddr 3 (.t 12)) 89,o3 87 (.load 1 .false (.t 86)) 90,o3 88 (.bslp 3 1 2 [.int .i64 0, .int .i64 0] [(0, .t 85),(1, .t 87)]) 91, .mk (.some 89)
 (.call 52 [.t 88]) .none 92 (.some [91]) .false [] .false, .mk (.some 90) (.nilc (.t 81)) .none 93 (.some [92,91]) .true [] .false, .mk (.some 91) (.faddr 2 (.t 90)) .none 94
 (.some [91,92]) .true [] .false, .mk .none (.store 1 (.t 91) (.t 89)) .none 95 (.some [92,91]) .true [] .false]) .skip)))) (.reg 96 2 [o1 92 (.bin .add (.t 65) (.k (.int .i64 1))) 96,o1 65 (.mv (.t 92)) 97])))))))))))) (.reg 98 2 [o1 93 (.bin .add (.t 26) (.k (.int .i64 1))) 98,o1 26 (.mv (.t 93)) 99]))))))) (.seq (.reg 100 3 [o1 94 (.mv (.t 8)) 100,o1 4 (.mv (.t 94)) 101,o1 5 (.mv (.k (.int .i64 0))) 102]) .ret)))))
def rs21:List IRes:=[.tmp 4, .tmp 5]
set_option maxRecDepth 100000 in
theorem comp21:Comp Try.prog 21 ir21 rs21 95:=⟨⟨_,_,103,Try.func21,rfl,by kernel_rfl,by kernel_rfl,rfl⟩⟩
theorem body21:HasBody Try.prog 21:=hasBody_of (by kernel_rfl)

def ir28:IC :=
 .seq (.reg 0 4 [o1 2 (.box 38 (.t 0)) 0,o1 3 (.box 40 (.t 1)) 1,o1 4 (.mv (.k (.slice .none 0 0))) 2,o1 5 (.mv (.k (.int .i64 0))) 3]) (.seq (.reg 4 9 [o1 12 (.load 3 .true (.t 2)) 4,o1 13 (.load 2 .true (.t 3)) 5,o1 14 (.call 44 [.t 12, .t 13]) 6,o1 11 (.mv (.t 14)) 7,o1 15 (.ext (.t 11) 0) 8,o1 16 (.ext (.t 11) 1) 9,o1 6 (.alloc 97 [.slice .none 0 0, .slice .none 0 0, .int .i64 0, .int .i64 0, .slice .none 0 0, .bool .false, .bool .false, .bool .false, .bool .false, .bool .false, .bool .false, .bool .false, .bool .false, .bool .false, .bool .false, .bool .false, .bool .false, .bool .false, .bool .false, .bool .false, .bool .false, .bool .false, .bool .false, .bool .false, .bool .false, .bool .false, .bool .false, .bool .false, .bool .false, .bool .false, .bool .false, .bool .false, .bool .false, .bool .false, .bool .false, .bool .false, .bool .false, .bool .false, .bool .false, .bool .false, .bool .false, .bool .false, .bool .false, .bool .false, .bool .false, .bool .false, .bool .false, .bool .false, .bool .false, .bool .false, .bool .false, .bool .false, .bool .false, .bool .false, .bool .false, .bool .false, .bool .false, .bool .false, .bool .false, .bool .false, .bool .false, .bool .false, .bool .false, .bool .false, .bool .false]) 10,o2 (.store 65 (.t 6) (.t 15)) 11,o1 7 (.mv (.t 16)) 12]) (.seq (.seq (.reg 13 2 [o1 17 (.mv (.t 7)) 13,o1 18 (.bin .neq (.t 17) (.k (.int .i64 0))) 14]) (.cond (.t 18) (.seq (.reg 15 3 [o1 19 (.mv (.t 7)) 15,o1 4 (.mv (.k (.slice .none 0 0))) 16,o1 5 (.mv (.t 19)) 17]) .ret) .skip)) (.seq (.reg 18 1 [o1 8 (.alloc 66 [.slice .none 0 0]) 18]) (.seq (.seq (.reg 19 2 [o1 20 (.load 65 .true (.t 6)) 19,o1 21 (.call 45 [.t 20]) 20]) (.block 0 (.range (.t 21) [22,23] (.reg 21 2 [.mk (.some 10) (.alloc 79 [.string (ByteArray.mk (Array.mk [])), .int .i64 0]) .none 21 .none .false [] .false,
 o2 (.store 2 (.t 10) (.t 23)) 22]) (.block 1 (.reg 23 5 [o1 24 (.load 1 .false (.t 8)) 23,o1 25 (.load 2 .true (.t 10)) 24, .mk (.some 26) (.bsl 79 2 1 [.string (ByteArray.mk (Array.mk [])), .int .i64 0] [(0, .t 25)]) .none 25 .none .false []
 .false,o1 27 (.app 79 2 24 (.t 24) (.t 26)) 26,o2 (.store 1 (.t 8) (.t 27)) 27]))))) (.seq (.reg 28 3
 [o1 28 (.load 1 .false (.t 8)) 28,o1 4 (.mv (.t 28)) 29,o1 5 (.mv (.k (.int .i64 0))) 30]) .ret)))))
def rs28:List IRes:=[.tmp 4, .tmp 5]
set_option maxRecDepth 100000 in
theorem comp28:Comp Try.prog 28 ir28 rs28 29:=⟨⟨_,_,31,Try.func28,rfl,by kernel_rfl,by kernel_rfl,rfl⟩⟩
theorem body28:HasBody Try.prog 28:=hasBody_of (by kernel_rfl)

def ir30:IC :=
 .seq (.reg 0 2 [o1 1 (.box 38 (.t 0)) 0,o1 2 (.mv (.k (.int .i64 0))) 1]) (.seq (.reg 2 2 [o1 4 (.mkf 54 [] [.t 1]) 2,o1 3 (.mv (.t 4)) 3]) (.seq (.block 0 (.seq (.reg 4 17 [o1 6 (.faddr 0 (.t 1)) 4,o1 7 (.load 1 .false (.t 6)) 5,o1 8 (.len (.t 7)) 6,o1 9 (.bin .gtr (.t 8) (.k (.int .i64 60))) 7,o1 10 (.mv (.t 9)) 8, .mk (.some 11) (.faddr 1 (.t 1)) (.some (10,
 .false)) 9 .none .false [] .false, .mk (.some 12) (.load 1 .false (.t 11)) (.some (10, .false)) 10 .none .false [] .false, .mk (.some 13) (.len (.t 12)) (.some (10, .false)) 11
 .none .false [] .false, .mk (.some 14) (.bin .gtr (.t 13) (.k (.int .i64 12))) (.some (10, .false)) 12 .none .false [] .false,o1 15 (.pick (.t 10) (.k (.bool .true)) (.t 14)) 13,o1 16 (.mv (.t 15)) 14, .mk (.some 17) (.faddr 0 (.t 1)) (.some (16, .false)) 15 .none .false []
 .false, .mk (.some 18) (.load 1 .false (.t 17)) (.some (16, .false)) 16 .none .false [] .false, .mk (.some 19) (.call 56 [.t 18, .f 57]) (.some (16, .false)) 17 .none .false []
 .false, .mk (.some 20) (.un .not (.t 19)) (.some (16, .false)) 18 .none .false [] .false,o1 21 (.pick (.t 16) (.k (.bool .true)) (.t 20)) 19,o1 5 (.mv (.t 21)) 20]) (.cond (.t 5) (.seq (.reg 21 1 [o1 2 (.mv (.k (.int .i64 3))) 21])
 .ret) (.seq (.reg 22 18 [o1 23 (.faddr 0 (.t 1)) 22,o1 24 (.load 1 .false (.t 23)) 23,o1 25 (.call 56 [.t 24, .f 58]) 24,o1 26 (.un .not (.t 25)) 25,o1 27 (.mv (.t 26)) 26, .mk (.some 28) (.faddr 1 (.t 1)) (.some (27, .false)) 27 .none .false [] .false, .mk (.some 29) (.load 1 .false (.t 28)) (.some (27, .false)) 28 .none .false [] .false,
 .mk (.some 30) (.mv (.t 3)) (.some (27, .false)) 29 .none .false [] .false, .mk (.some 31) (.call 59 [.t 29, .t 30]) (.some (27, .false)) 30 .none .false [] .false, .mk (.some 32)
 (.un .not (.t 31)) (.some (27, .false)) 31 .none .false [] .false,o1 33 (.pick (.t 27) (.k (.bool .true)) (.t 32)) 32,o1 34 (.mv (.t 33)) 33, .mk (.some 35) (.faddr 2 (.t 1)) (.some (34, .false)) 34 .none .false [] .false, .mk (.some 36) (.load 1 .false (.t 35)) (.some (34,
 .false)) 35 .none .false [] .false, .mk (.some 37) (.call 51 [.t 36, .k (.int .i64 1), .k (.int .i64 20)]) (.some (34, .false)) 36 .none .false [] .false, .mk (.some 38) (.un .not
 (.t 37)) (.some (34, .false)) 37 .none .false [] .false,o1 39 (.pick (.t 34) (.k (.bool .true)) (.t 38)) 38,o1 22 (.mv (.t 39)) 39]) (.cond (.t 22) (.seq (.reg 40 1 [o1 2 (.mv (.k (.int .i64 1))) 40]) .ret) .skip))))) (.seq (.reg 41 1 [o1 2 (.mv (.k (.int .i64 0))) 41]) .ret)))
def rs30:List IRes:=[.tmp 2]
set_option maxRecDepth 100000 in
theorem comp30:Comp Try.prog 30 ir30 rs30 40:=⟨⟨_,_,42,Try.func30,rfl,by kernel_rfl,by kernel_rfl,rfl⟩⟩
theorem body30:HasBody Try.prog 30:=hasBody_of (by kernel_rfl)

def ir31:IC :=
 .seq (.reg 0 5 [o1 3 (.box 38 (.t 0)) 0,o1 4 (.box 40 (.t 1)) 1,o1 5 (.box 3 (.t 2)) 2,o1 6 (.mv (.k (.int .i64 0))) 3,o1 7 (.mv (.k (.int .i64 0))) 4]) (.seq (.reg
 5 9 [o1 14 (.load 3 .true (.t 3)) 5,o1 15 (.load 2 .true (.t 4)) 6,o1 16 (.call 44 [.t 14, .t 15]) 7,o1 13 (.mv (.t 16)) 8,o1 17 (.ext (.t 13) 0) 9,o1 18 (.ext (.t 13) 1) 10,o1 8 (.alloc 97 [.slice .none 0 0, .slice .none 0 0, .int .i64 0, .int .i64 0, .slice .none 0 0, .bool .false, .bool .false, .bool .false, .bool .false, .bool .false, .bool .false, .bool .false, .bool .false, .bool .false, .bool .false, .bool .false, .bool .false, .bool .false, .bool .false, .bool .false, .bool .false, .bool .false, .bool .false, .bool .false, .bool .false, .bool .false, .bool .false, .bool .false, .bool .false, .bool .false, .bool .false, .bool .false, .bool .false, .bool .false, .bool .false, .bool .false, .bool .false, .bool .false, .bool .false, .bool .false, .bool .false, .bool .false, .bool .false, .bool .false, .bool .false, .bool .false, .bool .false, .bool .false, .bool .false, .bool .false, .bool .false, .bool .false, .bool .false, .bool .false, .bool .false, .bool .false, .bool .false, .bool .false, .bool .false, .bool .false, .bool .false, .bool .false, .bool .false, .bool .false, .bool .false]) 11,o2 (.store 65 (.t 8) (.t 17)) 12,o1 9 (.mv (.t 18)) 13]) (.seq (.seq (.reg 14 2 [o1 19 (.mv (.t 9)) 14,o1 20 (.bin .neq (.t 19) (.k (.int .i64 0))) 15]) (.cond (.t 20) (.seq (.reg 16 3 [o1 21 (.mv (.t 9)) 16,o1 6 (.mv (.k (.int .i64 0))) 17,o1 7 (.mv (.t 21)) 18]) .ret) .skip)) (.seq
 (.reg 19 4 [o1 10 (.alloc 3 [.int .i64 0]) 19,o1 11 (.alloc 3 [.int .i64 0]) 20,o2 (.store 1 (.t 10) (.k (.int .i64 0))) 21,o2 (.store 1 (.t 11) (.k (.int .i64 (-1)))) 22]) (.seq .skip (.seq (.seq (.reg 23
 2 [o1 22 (.load 65 .true (.t 8)) 23,o1 23 (.call 45 [.t 22]) 24]) (.block 0 (.range (.t 23) [24,25]
 (.reg 25 1 [o1 12 (.mv (.t 24)) 25]) (.block 1 (.seq (.seq (.reg 26 3 [o1 26 (.load 1 .false (.t 10)) 26,o1 27 (.load 1 .false (.t 5)) 27,o1 28 (.bin .eql (.t 26) (.t 27)) 28]) (.cond (.t 28) (.seq
 (.reg 29 2 [o1 29 (.mv (.t 12)) 29,o2 (.store 1 (.t 11) (.t 29)) 30]) (.exit 0)) .skip)) (.reg 31 3 [o1 30 (.load 1 .false (.t 10)) 31,o1 31 (.bin .add (.t 30) (.k (.int .i64 1))) 32,o2 (.store 1 (.t 10) (.t 31)) 33])))))) (.seq (.seq (.reg 34 2 [o1 32 (.load 1 .false (.t 11)) 34,o1 33 (.bin .eql (.t 32) (.k (.int .i64 (-1)))) 35]) (.cond (.t 33) (.seq (.reg 36 2 [o1 6 (.mv (.k (.int .i64 0))) 36,o1 7 (.mv (.k (.int .i64 7))) 37]) .ret) .skip)) (.seq (.reg 38 3 [o1 34 (.load 1 .false (.t 11)) 38,o1 6 (.mv (.t 34)) 39,o1 7 (.mv (.k (.int .i64 0))) 40]) .ret)))))))
def rs31:List IRes:=[.tmp 6, .tmp 7]
set_option maxRecDepth 100000 in
theorem comp31:Comp Try.prog 31 ir31 rs31 35:=⟨⟨_,_,41,Try.func31,rfl,by kernel_rfl,by kernel_rfl,rfl⟩⟩
theorem body31:HasBody Try.prog 31:=hasBody_of (by kernel_rfl)

def ir36:IC :=
 .seq (.reg 0 4 [o1 2 (.box 38 (.t 0)) 0,o1 3 (.box 40 (.t 1)) 1,o1 4 (.mv (.k (.slice .none 0 0))) 2,o1 5 (.mv (.k (.int .i64 0))) 3]) (.seq (.reg 4 9 [o1 13 (.load 3 .true (.t 2)) 4,o1 14 (.load 2 .true (.t 3)) 5,o1 15 (.call 44 [.t 13, .t 14]) 6,o1 12 (.mv (.t 15)) 7,o1 16 (.ext (.t 12) 0) 8,o1 17 (.ext (.t 12) 1) 9,o1 6 (.alloc 97 [.slice .none 0 0, .slice .none 0 0, .int .i64 0, .int .i64 0, .slice .none 0 0, .bool .false, .bool .false, .bool .false, .bool .false, .bool .false, .bool .false, .bool .false, .bool .false, .bool .false, .bool .false, .bool .false, .bool .false, .bool .false, .bool .false, .bool .false, .bool .false, .bool .false, .bool .false, .bool .false, .bool .false, .bool .false, .bool .false, .bool .false, .bool .false, .bool .false, .bool .false, .bool .false, .bool .false, .bool .false, .bool .false, .bool .false, .bool .false, .bool .false, .bool .false, .bool .false, .bool .false, .bool .false, .bool .false, .bool .false, .bool .false, .bool .false, .bool .false, .bool .false, .bool .false, .bool .false, .bool .false, .bool .false, .bool .false, .bool .false, .bool .false, .bool .false, .bool .false, .bool .false, .bool .false, .bool .false, .bool .false, .bool .false, .bool .false, .bool .false, .bool .false]) 10,o2 (.store 65 (.t 6) (.t 16)) 11,o1 7 (.mv (.t 17)) 12]) (.seq (.seq (.reg 13 2 [o1 18 (.mv (.t 7)) 13,o1 19 (.bin .neq (.t 18) (.k (.int .i64 0))) 14]) (.cond (.t 19) (.seq (.reg 15 3 [o1 20 (.mv (.t 7)) 15,o1 4 (.mv (.k (.slice .none 0 0))) 16,o1 5 (.mv (.t 20)) 17]) .ret) .skip)) (.seq (.reg 18 1 [o1 8 (.mv (.k (.slice .none 0 0))) 18]) (.seq (.reg 19 3 [o1 21 (.load 65 .true (.t 6)) 19,o1 22 (.call 61 [.t 21]) 20,o1 9 (.mv (.t 22)) 21]) (.seq (.seq (.reg 22 3 [o1 23 (.mv (.t 9)) 22,o1 24 (.len (.t 23)) 23,o1 25 (.mv (.k (.int .i64 0))) 24]) (.block 0 (.loop (.seq (.reg 25 1 [o1 26 (.bin .lss (.t 25) (.t 24)) 25]) (.seq (.cond (.t 26) .skip (.exit 0)) (.seq (.block 1 (.seq (.reg 26 5 [o1 27 (.mv (.t 25)) 26,o1 28 (.iaddr 1 (.t 23) (.t 25)) 27,o1 29 (.load 1 .false (.t 28)) 28,o1 10 (.mv (.t 27)) 29,o1 11 (.mv (.t 29)) 30]) (.seq (.draw 31 11 [6,9] [] [o3 30 (.load 65 .true (.t 6)) 31,o3 31 (.mv (.t 9)) 32,o3 32 (.call 64 [.t 31]) 33,o3 33 (.mv (.t 10)) 34,o3 34 (.mv (.t 10)) 35,o3 35 (.bin .add (.t 34) (.k (.int .i64 1))) 36, .mk (.some 36) (.cut 63 (.t 32) [.t 33, .t 35]) .none 37 (.some [33]) .true [] .true, .mk (.some 37) (.call 62 [.t 30, .t 36]) .none 38 (.some [33])
 .false [] .false,o3 38 (.faddr 5 (.t 6)) 39,o3 39 (.load 60 .true (.t 38)) 40, .mk (.some 40)
 (.pur (.bin .eql 95) [.t 37, .t 39]) .none 41 (.some [33,38]) .true [] .false]) (.cond (.t 40) (.reg 42 5 [o1 41 (.mv (.t 8)) 42,o1 42 (.mv (.t 11)) 43,o1 43 (.bsl 3 1 1 [.int .i64 0] [(0, .t 42)]) 44,o1 44 (.app 3 1 8 (.t 41) (.t 43)) 45,o1 8 (.mv (.t 44)) 46]) .skip)))) (.reg 47 2 [o1 45 (.bin .add (.t 25) (.k (.int .i64 1))) 47,o1 25 (.mv (.t 45)) 48]))))))) (.seq (.reg 49 3 [o1 46 (.mv (.t 8)) 49,o1 4 (.mv (.t 46)) 50,o1 5 (.mv (.k (.int .i64 0))) 51]) .ret))))))
def rs36:List IRes:=[.tmp 4, .tmp 5]
set_option maxRecDepth 100000 in
theorem comp36:Comp Try.prog 36 ir36 rs36 47:=⟨⟨_,_,52,Try.func36,rfl,by kernel_rfl,by kernel_rfl,rfl⟩⟩
theorem body36:HasBody Try.prog 36:=hasBody_of (by kernel_rfl)

def ir37:IC :=
 .seq (.reg 0 4 [o1 2 (.box 38 (.t 0)) 0,o1 3 (.box 40 (.t 1)) 1,o1 4 (.mv (.k (.int .i64 0))) 2,o1 5 (.mv (.k (.int .i64 0))) 3]) (.seq (.reg 4 9 [o1 12 (.load 3 .true (.t 2)) 4,o1 13 (.load 2 .true (.t 3)) 5,o1 14 (.call 44 [.t 12, .t 13]) 6,o1 11 (.mv (.t 14)) 7,o1 15 (.ext (.t 11) 0) 8,o1 16 (.ext (.t 11) 1) 9,o1 6 (.alloc 97 [.slice .none 0 0, .slice .none 0 0, .int .i64 0, .int .i64 0, .slice .none 0 0, .bool .false, .bool .false, .bool .false, .bool .false, .bool .false, .bool .false, .bool .false, .bool .false, .bool .false, .bool .false, .bool .false, .bool .false, .bool .false, .bool .false, .bool .false, .bool .false, .bool .false, .bool .false, .bool .false, .bool .false, .bool .false, .bool .false, .bool .false, .bool .false, .bool .false, .bool .false, .bool .false, .bool .false, .bool .false, .bool .false, .bool .false, .bool .false, .bool .false, .bool .false, .bool .false, .bool .false, .bool .false, .bool .false, .bool .false, .bool .false, .bool .false, .bool .false, .bool .false, .bool .false, .bool .false, .bool .false, .bool .false, .bool .false, .bool .false, .bool .false, .bool .false, .bool .false, .bool .false, .bool .false, .bool .false, .bool .false, .bool .false, .bool .false, .bool .false, .bool .false]) 10,o2 (.store 65 (.t 6) (.t 15)) 11,o1 7 (.mv (.t 16)) 12]) (.seq (.seq (.reg 13 2 [o1 17 (.mv (.t 7)) 13,o1 18 (.bin .neq (.t 17) (.k (.int .i64 0))) 14]) (.cond (.t 18) (.seq (.reg 15 3 [o1 19 (.mv (.t 7)) 15,o1 4 (.mv (.k (.int .i64 0))) 16,o1 5 (.mv (.t 19)) 17]) .ret) .skip)) (.seq (.reg 18 4 [o1 20 (.load 65 .true (.t 6)) 18,o1 21 (.call 61 [.t 20]) 19,o1 8 (.alloc 26 [.slice .none 0 0]) 20,o2 (.store 1 (.t 8) (.t 21)) 21]) (.seq (.reg 22 1 [o1 9 (.alloc 121 [.nilFunc]) 22]) (.seq (.reg 23 2 [o1 22 (.mkf 65 [] [.t 6, .t 8, .t 9]) 23,o2 (.store 1 (.t 9) (.t 22)) 24]) (.seq (.reg 25 1 [o1 10 (.mv (.k (.int .i64 0))) 25]) (.seq (.block 0 (.loop (.seq (.seq (.reg 26 4 [o1 23 (.load 1 .false (.t 9)) 26,o1 24 (.mv (.t 10)) 27,o1 25 (.callv (.t 23) [.k (.slice .none 0 0), .k (.int .i64 0), .t 24]) 28,o1 26 (.un .not (.t 25)) 29]) (.cond (.t 26) .skip (.exit 0))) (.block 1 (.reg 30 3 [o1 27 (.mv (.t 10)) 30,o1 28 (.bin .add (.t 27) (.k (.int .i64 1))) 31,o1 10 (.mv (.t 28)) 32]))))) (.seq (.reg 33 3
 [o1 29 (.mv (.t 10)) 33,o1 4 (.mv (.t 29)) 34,o1 5 (.mv (.k (.int .i64 0))) 35]) .ret))))))))
def rs37:List IRes:=[.tmp 4, .tmp 5]
set_option maxRecDepth 100000 in
theorem comp37:Comp Try.prog 37 ir37 rs37 30:=⟨⟨_,_,36,Try.func37,rfl,by kernel_rfl,by kernel_rfl,rfl⟩⟩
theorem body37:HasBody Try.prog 37:=hasBody_of (by kernel_rfl)

def ir44:IC :=
 .seq (.reg 0 4 [o1 2 (.box 38 (.t 0)) 0,o1 3 (.box 40 (.t 1)) 1,o1 4 (.alloc 97 [.slice .none 0 0, .slice .none 0 0, .int .i64 0, .int .i64 0, .slice .none 0 0, .bool .false, .bool .false, .bool .false, .bool .false, .bool .false, .bool .false, .bool .false, .bool .false, .bool .false, .bool .false, .bool .false, .bool .false, .bool .false, .bool .false, .bool .false, .bool .false, .bool .false, .bool .false, .bool .false, .bool .false, .bool .false, .bool .false, .bool .false, .bool .false, .bool .false, .bool .false, .bool .false, .bool .false, .bool .false, .bool .false, .bool .false, .bool .false, .bool .false, .bool .false, .bool .false, .bool .false, .bool .false, .bool .false, .bool .false, .bool .false, .bool .false, .bool .false, .bool .false, .bool .false, .bool .false, .bool .false, .bool .false, .bool .false, .bool .false, .bool .false, .bool .false, .bool .false, .bool .false, .bool .false, .bool .false, .bool .false, .bool .false, .bool .false, .bool .false, .bool .false]) 2,o1 5 (.mv (.k (.int .i64 0))) 3]) (.seq (.seq (.reg 4 3 [o1 10 (.load 3 .true (.t 2)) 4,o1 11 (.call 30 [.t 10]) 5,o1 6 (.mv (.t 11)) 6]) (.seq
 (.reg 7 2 [o1 12 (.mv (.t 6)) 7,o1 13 (.bin .neq (.t 12) (.k (.int .i64 0))) 8]) (.cond (.t 13) (.seq
 (.reg 9 4 [o1 14 (.bld [(0,3),(3,2),(5,60)] [.slice .none 0 0, .slice .none 0 0, .int .i64 0, .int .i64 0, .slice .none 0 0, .bool .false, .bool .false, .bool .false, .bool .false, .bool .false, .bool .false, .bool .false, .bool .false, .bool .false, .bool .false, .bool .false, .bool .false, .bool .false, .bool .false, .bool .false, .bool .false, .bool .false, .bool .false, .bool .false, .bool .false, .bool .false, .bool .false, .bool .false, .bool .false, .bool .false, .bool .false, .bool .false, .bool .false, .bool .false, .bool .false, .bool .false, .bool .false, .bool .false, .bool .false, .bool .false, .bool .false, .bool .false, .bool .false, .bool .false, .bool .false, .bool .false, .bool .false, .bool .false, .bool .false, .bool .false, .bool .false, .bool .false, .bool .false, .bool .false, .bool .false, .bool .false, .bool .false, .bool .false, .bool .false, .bool .false, .bool .false, .bool .false, .bool .false, .bool .false, .bool .false] []) 9,o1 15 (.mv (.t 6)) 10,o2 (.store 65 (.t 4) (.t 14)) 11,o1 5 (.mv (.t 15)) 12]) .ret) .skip))) (.seq
 (.seq (.reg 13 10 [o1 16 (.faddr 0 (.t 3)) 13,o1 17 (.load 1 .false (.t 16)) 14,o1 18 (.call 55 [.t 17]) 15,o1 19 (.un .not (.t 18)) 16,o1 20 (.mv (.t 19)) 17, .mk
 (.some 21) (.faddr 1 (.t 3)) (.some (20, .false)) 18 .none .false [] .false, .mk (.some 22) (.load 1 .false (.t 21)) (.some (20, .false)) 19 .none .false [] .false, .mk (.some 23)
 (.call 67 [.t 22, .k (.int .i64 7)]) (.some (20, .false)) 20 .none .false [] .false, .mk (.some 24) (.un .not (.t 23)) (.some (20, .false)) 21 .none .false [] .false,o1 25 (.pick (.t 20) (.k (.bool .true)) (.t 24)) 22]) (.cond (.t 25) (.seq (.reg 23 3 [o1 26 (.bld [(0,3),(3,2),(5,60)] [.slice .none 0 0, .slice .none 0 0, .int .i64 0, .int .i64 0, .slice .none 0 0, .bool .false, .bool .false, .bool .false, .bool .false, .bool .false, .bool .false, .bool .false, .bool .false, .bool .false, .bool .false, .bool .false, .bool .false, .bool .false, .bool .false, .bool .false, .bool .false, .bool .false, .bool .false, .bool .false, .bool .false, .bool .false, .bool .false, .bool .false, .bool .false, .bool .false, .bool .false, .bool .false, .bool .false, .bool .false, .bool .false, .bool .false, .bool .false, .bool .false, .bool .false, .bool .false, .bool .false, .bool .false, .bool .false, .bool .false, .bool .false, .bool .false, .bool .false, .bool .false, .bool .false, .bool .false, .bool .false, .bool .false, .bool .false, .bool .false, .bool .false, .bool .false, .bool .false, .bool .false, .bool .false, .bool .false, .bool .false, .bool .false, .bool .false, .bool .false, .bool .false] []) 23,o2 (.store 65 (.t 4) (.t 26)) 24,o1 5 (.mv (.k (.int .i64 2))) 25]) .ret) .skip)) (.seq (.reg 26 6 [o1 27 (.load 3 .true (.t 2)) 26,o1 28 (.load 2 .true (.t 3)) 27,o1 29 (.bld [(0,1),(1,1),(2,1),(3,1),(4,1),(5,1),(6,1),(7,1),(8,1),(9,1),(10,1),(11,1),(12,1),(13,1),(14,1),(15,1),(16,1),(17,1),(18,1),(19,1),(20,1),(21,1),(22,1),(23,1),(24,1),(25,1),(26,1),(27,1),(28,1),(29,1),(30,1),(31,1),(32,1),(33,1),(34,1),(35,1),(36,1),(37,1),(38,1),(39,1),(40,1),(41,1),(42,1),(43,1),(44,1),(45,1),(46,1),(47,1),(48,1),(49,1),(50,1),(51,1),(52,1),(53,1),(54,1),(55,1),(56,1),(57,1),(58,1),(59,1)] [.bool .false, .bool .false, .bool .false, .bool .false, .bool .false, .bool .false, .bool .false, .bool .false, .bool .false, .bool .false, .bool .false, .bool .false, .bool .false, .bool .false, .bool .false, .bool .false, .bool .false, .bool .false, .bool .false, .bool .false, .bool .false, .bool .false, .bool .false, .bool .false, .bool .false, .bool .false, .bool .false, .bool .false, .bool .false, .bool .false, .bool .false, .bool .false, .bool .false, .bool .false, .bool .false, .bool .false, .bool .false, .bool .false, .bool .false, .bool .false, .bool .false, .bool .false, .bool .false, .bool .false, .bool .false, .bool .false, .bool .false, .bool .false, .bool .false, .bool .false, .bool .false, .bool .false, .bool .false, .bool .false, .bool .false, .bool .false, .bool .false, .bool .false, .bool .false, .bool .false] []) 28,o1 30 (.bld [(0,3),(3,2),(5,60)] [.slice .none 0 0, .slice .none 0 0, .int .i64 0, .int .i64 0, .slice .none 0 0, .bool .false, .bool .false, .bool .false, .bool .false, .bool .false, .bool .false, .bool .false, .bool .false, .bool .false, .bool .false, .bool .false, .bool .false, .bool .false, .bool .false, .bool .false, .bool .false, .bool .false, .bool .false, .bool .false, .bool .false, .bool .false, .bool .false, .bool .false, .bool .false, .bool .false, .bool .false, .bool .false, .bool .false, .bool .false, .bool .false, .bool .false, .bool .false, .bool .false, .bool .false, .bool .false, .bool .false, .bool .false, .bool .false, .bool .false, .bool .false, .bool .false, .bool .false, .bool .false, .bool .false, .bool .false, .bool .false, .bool .false, .bool .false, .bool .false, .bool .false, .bool .false, .bool .false, .bool .false, .bool .false, .bool .false, .bool .false, .bool .false, .bool .false, .bool .false, .bool .false] [(0, .t 27),(1, .t 28),(2, .t 29)]) 29,o1 7 (.alloc 97 [.slice .none 0 0, .slice .none 0 0, .int .i64 0, .int .i64 0, .slice .none 0 0, .bool .false, .bool .false, .bool .false, .bool .false, .bool .false, .bool .false, .bool .false, .bool .false, .bool .false, .bool .false, .bool .false, .bool .false, .bool .false, .bool .false, .bool .false, .bool .false, .bool .false, .bool .false, .bool .false, .bool .false, .bool .false, .bool .false, .bool .false, .bool .false, .bool .false, .bool .false, .bool .false, .bool .false, .bool .false, .bool .false, .bool .false, .bool .false, .bool .false, .bool .false, .bool .false, .bool .false, .bool .false, .bool .false, .bool .false, .bool .false, .bool .false, .bool .false, .bool .false, .bool .false, .bool .false, .bool .false, .bool .false, .bool .false, .bool .false, .bool .false, .bool .false, .bool .false, .bool .false, .bool .false, .bool .false, .bool .false, .bool .false, .bool .false, .bool .false, .bool .false]) 30,o2 (.store 65 (.t 7) (.t 30)) 31]) (.seq (.seq (.reg 32 4 [o1 31 (.faddr 1 (.t 2)) 32,o1 32 (.load 1 .false (.t 31)) 33,o1 33 (.len (.t 32)) 34,o1 34 (.mv (.k (.int .i64 0))) 35]) (.block 0 (.loop (.seq (.reg 36 1 [o1 35 (.bin .lss (.t 34) (.t 33)) 36]) (.seq (.cond (.t 35) .skip (.exit 0)) (.seq (.block 1 (.seq (.reg 37 4 [o1 36 (.iaddr 4 (.t 32) (.t 34)) 37,o1 37 (.load 4 .true (.t 36)) 38,o1 9 (.alloc 65 [.int .i64 0, .int .i64 0, .int .i64 0, .int .i64 0]) 39,o2 (.store 4 (.t 9) (.t 37)) 40]) (.seq (.reg 41 3 [o1 38 (.load 65 .true (.t 7)) 41,o1 39 (.load 4 .true (.t 9)) 42,o1 40 (.call 68 [.t 38, .t 39]) 43]) (.cond (.t 40)
 (.reg 44 3 [o1 41 (.faddr 5 (.t 7)) 44,o1 42 (.load 4 .true (.t 9)) 45,o1 43 (.call 69 [.t 41, .t 42]) 46]) .skip)))) (.reg 47 2 [o1 44 (.bin .add (.t 34) (.k (.int .i64 1))) 47,o1 34 (.mv (.t 44)) 48]))))))) (.seq (.reg 49 3 [o1 45 (.load 65 .true (.t 7)) 49,o2 (.store 65 (.t 4) (.t 45)) 50,o1 5 (.mv (.k (.int .i64 0))) 51]) .ret)))))
def rs44:List IRes:=[.cell 4 65 .true, .tmp 5]
set_option maxRecDepth 100000 in
theorem comp44:Comp Try.prog 44 ir44 rs44 46:=⟨⟨_,_,52,Try.func44,rfl,by kernel_rfl,by kernel_rfl,rfl⟩⟩
theorem body44:HasBody Try.prog 44:=hasBody_of (by kernel_rfl)

def ir45:IC :=
 .seq (.reg 0 2 [o1 1 (.box 97 (.t 0)) 0,o1 2 (.mv (.k .nilFunc)) 1]) (.seq (.reg 2 2 [o1 3 (.mkf 70 [] [.t 1]) 2,o1 2 (.mv (.t 3)) 3]) .ret)
def rs45:List IRes:=[.tmp 2]
set_option maxRecDepth 100000 in
theorem comp45:Comp Try.prog 45 ir45 rs45 4:=⟨⟨_,_,4,Try.func45,rfl,by kernel_rfl,by kernel_rfl,rfl⟩⟩
theorem body45:HasBody Try.prog 45:=hasBody_of (by kernel_rfl)

def ir46:IC :=
 .seq (.reg 0 1 [o1 4 (.mv (.k (.bool .false))) 0]) (.seq (.reg 1 5 [o1 5 (.mv (.t 0)) 1,o1 6 (.mv (.t 1)) 2,o1 7 (.call 71 [.t 5, .t 6]) 3,o1 8 (.bin .geq (.t 7) (.k (.int .i64 0))) 4,o1 4 (.mv (.t 8)) 5]) .ret)
def rs46:List IRes:=[.tmp 4]
set_option maxRecDepth 100000 in
theorem comp46:Comp Try.prog 46 ir46 rs46 9:=⟨⟨_,_,6,Try.func46,rfl,by kernel_rfl,by kernel_rfl,rfl⟩⟩
theorem body46:HasBody Try.prog 46:=hasBody_of (by kernel_rfl)

def ir50:IC :=
 .seq (.reg 0 3 [o1 2 (.box 97 (.t 0)) 0,o1 3 (.box 65 (.t 1)) 1,o1 4 (.mv (.k (.bool .false))) 2]) (.seq (.reg 3 8 [o1 5 (.faddr 3 (.t 2)) 3,o1 6 (.faddr 1 (.t 5)) 4,
 o1 7 (.load 1 .false (.t 6)) 5,o1 8 (.faddr 2 (.t 3)) 6,o1 9 (.load 1 .false (.t 8)) 7,o1 10 (.call 46 [.t 7, .t 9]) 8,o1 11 (.un .not (.t 10)) 9,o1 4 (.mv (.t 11)) 10]) .ret)
def rs50:List IRes:=[.tmp 4]
set_option maxRecDepth 100000 in
theorem comp50:Comp Try.prog 50 ir50 rs50 12:=⟨⟨_,_,11,Try.func50,rfl,by kernel_rfl,by kernel_rfl,rfl⟩⟩
theorem body50:HasBody Try.prog 50:=hasBody_of (by kernel_rfl)

def ir51:IC :=
 .seq (.reg 0 1 [o1 6 (.mv (.k (.bool .false))) 0]) (.seq (.reg 1 9 [o1 7 (.mv (.t 1)) 1,o1 8 (.mv (.t 0)) 2,o1 9 (.bin .leq (.t 7) (.t 8)) 3,o1 10 (.mv (.t 9)) 4,
 .mk (.some 11) (.mv (.t 0)) (.some (10, .true)) 5 .none .false [] .false, .mk (.some 12) (.mv (.t 2)) (.some (10, .true)) 6 .none .false [] .false, .mk (.some 13) (.bin .leq (.t
 11) (.t 12)) (.some (10, .true)) 7 .none .false [] .false,o1 14 (.pick (.t 10) (.t 13) (.k (.bool .false))) 8,o1 6 (.mv (.t 14)) 9]) .ret)
def rs51:List IRes:=[.tmp 6]
set_option maxRecDepth 100000 in
theorem comp51:Comp Try.prog 51 ir51 rs51 15:=⟨⟨_,_,10,Try.func51,rfl,by kernel_rfl,by kernel_rfl,rfl⟩⟩
theorem body51:HasBody Try.prog 51:=hasBody_of (by kernel_rfl)

def ir52:IC :=
 .seq (.reg 0 1 [o1 2 (.mv (.k (.int .i64 0))) 0]) (.seq (.reg 1 3 [o1 3 (.mv (.t 0)) 1,o1 4 (.call 75 [.t 3]) 2,o1 2 (.mv (.t 4)) 3]) .ret)
def rs52:List IRes:=[.tmp 2]
set_option maxRecDepth 100000 in
theorem comp52:Comp Try.prog 52 ir52 rs52 5:=⟨⟨_,_,4,Try.func52,rfl,by kernel_rfl,by kernel_rfl,rfl⟩⟩
theorem body52:HasBody Try.prog 52:=hasBody_of (by kernel_rfl)

def ir55:IC :=
 .seq (.reg 0 1 [o1 2 (.mv (.k (.bool .false))) 0]) (.seq (.reg 1 3 [o1 3 (.mv (.t 0)) 1,o1 4 (.call 51 [.t 3, .k (.int .i64 0), .k (.int .i64 9999)]) 2,o1 2 (.mv (.t 4)) 3]) .ret)
def rs55:List IRes:=[.tmp 2]
set_option maxRecDepth 100000 in
theorem comp55:Comp Try.prog 55 ir55 rs55 5:=⟨⟨_,_,4,Try.func55,rfl,by kernel_rfl,by kernel_rfl,rfl⟩⟩
theorem body55:HasBody Try.prog 55:=hasBody_of (by kernel_rfl)

def ir56:IC :=
 .seq (.reg 0 2 [o1 3 (.box 116 (.t 1)) 0,o1 4 (.mv (.k (.bool .false))) 1]) (.seq (.reg 2 5 [o1 5 (.mv (.t 0)) 2,o1 6 (.mkf 77 [] [.t 3]) 3,o1 7 (.call 76 [.t 5, .t 6]) 4,o1 8 (.un .not (.t 7)) 5,o1 4 (.mv (.t 8)) 6]) .ret)
def rs56:List IRes:=[.tmp 4]
set_option maxRecDepth 100000 in
theorem comp56:Comp Try.prog 56 ir56 rs56 9:=⟨⟨_,_,7,Try.func56,rfl,by kernel_rfl,by kernel_rfl,rfl⟩⟩
theorem body56:HasBody Try.prog 56:=hasBody_of (by kernel_rfl)

def ir59:IC :=
 .seq (.reg 1 2 [o1 3 (.box 111 (.t 1)) 1,o1 4 (.mv (.k (.bool .false))) 2]) (.seq (.reg 3 5 [o1 5 (.mv (.t 0)) 3,o1 6 (.mkf 81 [] [.t 3]) 4,o1 7 (.call 80 [.t 5, .t 6]) 5,o1 8 (.un .not (.t 7)) 6,o1 4 (.mv (.t 8)) 7]) .ret)
def rs59:List IRes:=[.tmp 4]
set_option maxRecDepth 100000 in
theorem comp59:CompAt Try.prog 59 1 ir59 rs59 9:=⟨⟨_,_,8,Try.func59,rfl,by kernel_rfl,by kernel_rfl,rfl⟩⟩
theorem body59:HasBody Try.prog 59:=hasBody_of (by kernel_rfl)

def ir61:IC :=
 .seq (.reg 0 2 [o1 1 (.box 97 (.t 0)) 0,o1 2 (.mv (.k (.slice .none 0 0))) 1]) (.seq (.reg 2 3 [o1 6 (.load 65 .true (.t 1)) 2,o1 7 (.mkf 68 [.t 6] []) 3,o1 3 (.mv (.t 7)) 4]) (.seq (.seq (.reg 5 5 [o1 8 (.faddr 0 (.t 1)) 5,o1 9 (.faddr 1 (.t 8)) 6,o1 10 (.load 1 .false (.t 9)) 7,o1 11 (.len (.t 10)) 8,o1 12 (.mv (.k (.int .i64 0))) 9]) (.block 0 (.loop (.seq (.reg 10 1 [o1 13 (.bin .lss (.t 12) (.t 11)) 10]) (.seq (.cond (.t 13) .skip (.exit 0)) (.seq (.block 1
 (.seq (.reg 11 6 [o1 14 (.mv (.t 12)) 11,o1 15 (.iaddr 4 (.t 10) (.t 12)) 12,o1 16 (.load 4 .true (.t 15)) 13,o1 5 (.alloc 65 [.int .i64 0, .int .i64 0, .int .i64 0, .int .i64 0]) 14,o1 4 (.mv (.t 14)) 15,o2 (.store 4 (.t 5) (.t 16)) 16]) (.seq (.reg 17 3 [o1 17 (.mv (.t 3)) 17,o1 18 (.load 4 .true (.t 5)) 18,o1 19 (.callv (.t 17) [.t 18]) 19]) (.cond (.t 19) (.reg 20
 5 [o1 20 (.mv (.t 2)) 20,o1 21 (.mv (.t 4)) 21,o1 22 (.bsl 3 1 1 [.int .i64 0] [(0, .t 21)]) 22,o1 23 (.app 3 1 8 (.t 20) (.t 22)) 23,o1 2 (.mv (.t 23)) 24])
 .skip)))) (.reg 25 2 [o1 24 (.bin .add (.t 12) (.k (.int .i64 1))) 25,o1 12 (.mv (.t 24)) 26])))))))
 (.seq (.reg 27 2 [o1 25 (.mv (.t 2)) 27,o1 2 (.mv (.t 25)) 28]) .ret)))
def rs61:List IRes:=[.tmp 2]
set_option maxRecDepth 100000 in
theorem comp61:Comp Try.prog 61 ir61 rs61 26:=⟨⟨_,_,29,Try.func61,rfl,by kernel_rfl,by kernel_rfl,rfl⟩⟩
theorem body61:HasBody Try.prog 61:=hasBody_of (by kernel_rfl)

def ir62:IC :=
 .seq (.reg 0 2 [o1 2 (.box 97 (.t 0)) 0,o1 4 (.alloc 95 [.bool .false, .bool .false, .bool .false, .bool .false, .bool .false, .bool .false, .bool .false, .bool .false, .bool .false, .bool .false, .bool .false, .bool .false, .bool .false, .bool .false, .bool .false, .bool .false, .bool .false, .bool .false, .bool .false, .bool .false, .bool .false, .bool .false, .bool .false, .bool .false, .bool .false, .bool .false, .bool .false, .bool .false, .bool .false, .bool .false, .bool .false, .bool .false, .bool .false, .bool .false, .bool .false, .bool .false, .bool .false, .bool .false, .bool .false, .bool .false, .bool .false, .bool .false, .bool .false, .bool .false, .bool .false, .bool .false, .bool .false, .bool .false, .bool .false, .bool .false, .bool .false, .bool .false, .bool .false, .bool .false, .bool .false, .bool .false, .bool .false, .bool .false, .bool .false, .bool .false]) 1]) (.seq (.seq (.reg 2 3 [o1 7 (.mv (.t 1)) 2,
 o1 8 (.len (.t 7)) 3,o1 9 (.mv (.k (.int .i64 0))) 4]) (.block 0 (.loop (.seq (.reg 5 1 [o1 10 (.bin .lss (.t 9) (.t 8)) 5]) (.seq (.cond (.t 10) .skip (.exit 0)) (.seq (.block 1 (.seq (.reg 6 3 [o1 11 (.iaddr 1 (.t 7) (.t 9)) 6,o1 12 (.load 1 .false (.t 11)) 7,o1 6 (.mv (.t 12)) 8]) (.reg 9 7 [o1 13 (.faddr 0 (.t 2)) 9,o1 14 (.faddr 1 (.t 13)) 10,o1 15 (.load 1 .false (.t 14)) 11,o1 16 (.mv (.t 6)) 12,o1 17 (.iaddr 4 (.t 15) (.t 16)) 13,o1 18 (.load 4 .true (.t 17)) 14,o1 19 (.call 69 [.t 4, .t 18]) 15]))) (.reg 16 2 [o1 20 (.bin .add (.t 9) (.k (.int .i64 1))) 16,o1 9 (.mv (.t 20)) 17]))))))) (.seq (.reg 18 2 [o1 21 (.load 60 .true (.t 4)) 18,o2 (.store 60 (.t 4) (.t 21)) 19]) .ret))
def rs62:List IRes:=[.cell 4 60 .true]
set_option maxRecDepth 100000 in
theorem comp62:Comp Try.prog 62 ir62 rs62 22:=⟨⟨_,_,20,Try.func62,rfl,by kernel_rfl,by kernel_rfl,rfl⟩⟩
theorem body62:HasBody Try.prog 62:=hasBody_of (by kernel_rfl)

def ir64:IC :=
 .seq (.reg 0 1 [o1 2 (.mv (.k (.slice .none 0 0))) 0]) (.seq (.seq (.reg 1 2 [o1 3 (.mv (.t 0)) 1,o1 4 (.pur (.bin .eql 26) [.t 3, .k (.slice .none 0 0)]) 2]) (.cond (.t 4) (.seq (.reg 3 1 [o1 2 (.mv (.k (.slice .none 0 0))) 3]) .ret) .skip)) (.seq (.reg 4 4 [o1 5 (.bsl 3 1 0 [] []) 4,o1 6 (.mv (.t 0)) 5,
 o1 7 (.app 3 1 8 (.t 5) (.t 6)) 6,o1 2 (.mv (.t 7)) 7]) .ret))
def rs64:List IRes:=[.tmp 2]
set_option maxRecDepth 100000 in
theorem comp64:Comp Try.prog 64 ir64 rs64 8:=⟨⟨_,_,8,Try.func64,rfl,by kernel_rfl,by kernel_rfl,rfl⟩⟩
theorem body64:HasBody Try.prog 64:=hasBody_of (by kernel_rfl)

def ir67:IC :=
 .seq (.reg 0 1 [o1 4 (.mv (.k (.bool .false))) 0]) (.seq (.seq (.reg 1 3 [o1 7 (.mv (.t 0)) 1,o1 8 (.len (.t 7)) 2,o1 9 (.mv (.k (.int .i64 0))) 3]) (.block 0 (.loop (.seq (.reg 4 1 [o1 10 (.bin .lss (.t 9) (.t 8)) 4]) (.seq (.cond (.t 10) .skip (.exit 0)) (.seq (.block 1 (.seq (.reg 5 5 [o1 11 (.mv (.t 9)) 5,o1 12 (.iaddr 1 (.t 7) (.t 9)) 6,o1 13 (.load 1 .false (.t 12)) 7,o1 5 (.mv (.t 11)) 8,o1 6 (.mv (.t 13)) 9]) (.seq (.reg 10 17 [o1 14 (.mv (.t 6)) 10,o1 15 (.mv (.t 1)) 11,o1 16 (.call 51 [.t 14, .k (.int .i64 0), .t 15]) 12,o1 17 (.un .not (.t 16)) 13,o1 18 (.mv (.t 17)) 14, .mk (.some 19) (.mv (.t 5)) (.some (18, .false)) 15 .none .false [] .false, .mk
 (.some 20) (.bin .gtr (.t 19) (.k (.int .i64 0))) (.some (18, .false)) 16 .none .false [] .false, .mk (.some 21) (.mv (.t 20)) (.some (18, .false)) 17 .none .false [] .false, .mk
 (.some 22) (.mv (.t 6)) (.some (21, .true)) 18 .none .false [] .false, .mk (.some 23) (.mv (.t 0)) (.some (21, .true)) 19 .none .false [] .false, .mk (.some 24) (.mv (.t 5))
 (.some (21, .true)) 20 .none .false [] .false, .mk (.some 25) (.bin .sub (.t 24) (.k (.int .i64 1))) (.some (21, .true)) 21 .none .false [] .false, .mk (.some 26) (.iaddr 1 (.t
 23) (.t 25)) (.some (21, .true)) 22 .none .false [] .false, .mk (.some 27) (.load 1 .false (.t 26)) (.some (21, .true)) 23 .none .false [] .false, .mk (.some 28) (.bin .leq (.t
 22) (.t 27)) (.some (21, .true)) 24 .none .false [] .false, .mk (.some 29) (.pick (.t 21) (.t 28) (.k (.bool .false))) (.some (18, .false)) 25 .none .false [] .false,o1 30 (.pick (.t 18) (.k (.bool .true)) (.t 29)) 26]) (.cond (.t 30) (.seq (.reg 27 1 [o1 4 (.mv (.k (.bool .false))) 27]) .ret) .skip)))) (.reg 28 2 [o1 31 (.bin .add (.t 9) (.k (.int .i64 1))) 28,o1 9 (.mv (.t 31)) 29]))))))) (.seq (.reg 30 1 [o1 4 (.mv (.k (.bool .true))) 30]) .ret))
def rs67:List IRes:=[.tmp 4]
set_option maxRecDepth 100000 in
theorem comp67:Comp Try.prog 67 ir67 rs67 32:=⟨⟨_,_,31,Try.func67,rfl,by kernel_rfl,by kernel_rfl,rfl⟩⟩
theorem body67:HasBody Try.prog 67:=hasBody_of (by kernel_rfl)

def ir68:IC :=
 .seq (.reg 0 3 [o1 2 (.box 97 (.t 0)) 0,o1 3 (.box 65 (.t 1)) 1,o1 4 (.mv (.k (.bool .false))) 2]) (.seq (.reg 3 12 [o1 5 (.faddr 3 (.t 2)) 3,o1 6 (.faddr 0 (.t 5)) 4,
 o1 7 (.load 1 .false (.t 6)) 5,o1 8 (.faddr 3 (.t 3)) 6,o1 9 (.load 1 .false (.t 8)) 7,o1 10 (.bin .lss (.t 7) (.t 9)) 8,o1 11 (.mv (.t 10)) 9, .mk (.some 12) (.load
 65 .true (.t 2)) (.some (11, .true)) 10 .none .false [] .false, .mk (.some 13) (.load 4 .true (.t 3)) (.some (11, .true)) 11 .none .false [] .false, .mk (.some 14) (.call 50 [.t
 12, .t 13]) (.some (11, .true)) 12 .none .false [] .false,o1 15 (.pick (.t 11) (.t 14) (.k (.bool .false))) 13,o1 4 (.mv (.t 15)) 14]) .ret)
def rs68:List IRes:=[.tmp 4]
set_option maxRecDepth 100000 in
theorem comp68:Comp Try.prog 68 ir68 rs68 16:=⟨⟨_,_,15,Try.func68,rfl,by kernel_rfl,by kernel_rfl,rfl⟩⟩
theorem body68:HasBody Try.prog 68:=hasBody_of (by kernel_rfl)

def ir69:IC :=
 .seq (.reg 1 1 [o1 3 (.box 65 (.t 1)) 1]) (.seq (.reg 2 3 [o1 5 (.faddr 0 (.t 3)) 2,o1 6 (.load 1 .false (.t 5)) 3,o1 4 (.mv (.t 6)) 4]) (.block 0 (.loop (.seq (.seq (.reg 5 4 [o1 7 (.mv (.t 4)) 5,o1 8 (.faddr 1 (.t 3)) 6,o1 9 (.load 1 .false (.t 8)) 7,o1 10 (.bin .lss (.t 7) (.t 9)) 8]) (.cond (.t 10) .skip (.exit 0))) (.seq (.block 1 (.reg 9 5 [o1 13 (.mv (.t 0)) 9,o1 14 (.mv (.t 4)) 10,o1 15 (.nilc (.t 13)) 11,o1 16 (.aaddr 1 60 (.t 15) (.t 14)) 12,o2 (.store 1 (.t 16) (.k (.bool .true))) 13])) (.reg 14 3 [o1 11 (.mv (.t 4)) 14,o1 12 (.bin .add (.t 11) (.k (.int .i64 1))) 15,o1 4 (.mv (.t 12)) 16]))))))
def rs69:List IRes:=[]
set_option maxRecDepth 100000 in
theorem comp69:CompAt Try.prog 69 1 ir69 rs69 17:=⟨⟨_,_,17,Try.func69,rfl,by kernel_rfl,by kernel_rfl,rfl⟩⟩
theorem body69:HasBody Try.prog 69:=hasBody_of (by kernel_rfl)

def ir71:IC :=
 .seq (.reg 0 1 [o1 4 (.mv (.k (.int .i64 0))) 0]) (.seq (.seq (.reg 1 3 [o1 6 (.mv (.t 0)) 1,o1 7 (.len (.t 6)) 2,o1 8 (.mv (.k (.int .i64 0))) 3]) (.block 0 (.loop (.seq (.reg 4 1 [o1 9 (.bin .lss (.t 8) (.t 7)) 4]) (.seq (.cond (.t 9) .skip (.exit 0)) (.seq (.block 1 (.seq (.reg 5 2 [o1 10 (.mv (.t 8)) 5,
 o1 5 (.mv (.t 10)) 6]) (.seq (.reg 7 6 [o1 11 (.mv (.t 1)) 7,o1 12 (.mv (.t 0)) 8,o1 13 (.mv (.t 5)) 9,o1 14 (.iaddr 1 (.t 12) (.t 13)) 10,o1 15 (.load 1 .false (.t 14)) 11,o1 16 (.bin .eql (.t 11) (.t 15)) 12]) (.cond (.t 16) (.seq (.reg 13 2 [o1 17 (.mv (.t 5)) 13,o1 4 (.mv (.t 17)) 14]) .ret) .skip)))) (.reg 15 2 [o1 18 (.bin .add (.t 8) (.k (.int .i64 1))) 15,o1 8 (.mv (.t 18)) 16]))))))) (.seq (.reg 17 1 [o1 4 (.mv (.k (.int .i64 (-1)))) 17]) .ret))
def rs71:List IRes:=[.tmp 4]
set_option maxRecDepth 100000 in
theorem comp71:Comp Try.prog 71 ir71 rs71 19:=⟨⟨_,_,18,Try.func71,rfl,by kernel_rfl,by kernel_rfl,rfl⟩⟩
theorem body71:HasBody Try.prog 71:=hasBody_of (by kernel_rfl)

def ir75:IC :=
 .seq (.reg 0 1 [o1 2 (.mv (.k (.int .i64 0))) 0]) (.seq (.seq (.reg 1 3 [o1 5 (.mv (.t 0)) 1,o1 6 (.len (.t 5)) 2,o1 7 (.bin .lss (.t 6) (.k (.int .i64 1))) 3]) (.cond (.t 7) (.reg 4 2 [.mk (.some 8) (.pur
 (.mki 9) [.k (.string (ByteArray.mk (Array.mk [115,108,105,99,101,115,46,77,97,120,58,32,101,109,112,116,121,32,108,105,115,116])))]) .none 4 .none .false []
 .false,o2 (.lenS (.k (.bool .true))) 5]) .skip)) (.seq (.reg 6 4 [o1 9 (.mv (.t 0)) 6,o1 10 (.iaddr 1 (.t 9) (.k (.int .i64 0))) 7,o1 11 (.load 1 .false (.t 10)) 8,o1 3 (.mv (.t 11)) 9]) (.seq (.seq (.reg 10 1 [o1 4 (.mv (.k (.int .i64 1))) 10]) (.block 0 (.loop (.seq (.seq (.reg 11 4 [o1 12 (.mv (.t 4)) 11,o1 13 (.mv (.t 0)) 12,o1 14 (.len (.t 13)) 13,o1 15 (.bin .lss (.t 12) (.t 14)) 14]) (.cond (.t 15) .skip (.exit 0))) (.seq (.block 1 (.reg 15 7 [o1 18 (.mv (.t 3)) 15,o1 19 (.mv (.t 0)) 16,o1 20 (.mv (.t 4)) 17,o1 21 (.iaddr 1 (.t 19) (.t 20)) 18,o1 22 (.load 1 .false (.t 21)) 19,o1 23 (.mm .true (.t 18) (.t 22)) 20,o1 3 (.mv (.t 23)) 21])) (.reg 22 3 [o1 16 (.mv (.t 4)) 22,o1 17 (.bin .add (.t 16) (.k (.int .i64 1))) 23,o1 4 (.mv (.t 17)) 24])))))) (.seq (.reg 25 2 [o1 24 (.mv (.t 3)) 25,o1 2 (.mv (.t 24)) 26]) .ret))))
def rs75:List IRes:=[.tmp 2]
set_option maxRecDepth 100000 in
theorem comp75:Comp Try.prog 75 ir75 rs75 25:=⟨⟨_,_,27,Try.func75,rfl,by kernel_rfl,by kernel_rfl,rfl⟩⟩
theorem body75:HasBody Try.prog 75:=hasBody_of (by kernel_rfl)

def ir58:IC :=
 .seq (.reg 0 2 [o1 1 (.box 104 (.t 0)) 0,o1 2 (.mv (.k (.bool .false))) 1]) (.seq (.reg 2 16 [o1 3 (.faddr 0 (.t 1)) 2,o1 4 (.load 1 .false (.t 3)) 3,o1 5 (.lenS (.t 4)) 4,o1 6 (.call 51 [.t 5, .k (.int .i64 1), .k (.int .i64 20)]) 5,o1 7 (.mv (.t 6)) 6, .mk (.some
 8) (.faddr 0 (.t 1)) (.some (7, .true)) 7 .none .false [] .false, .mk (.some 9) (.load 1 .false (.t 8)) (.some (7, .true)) 8 .none .false [] .false, .mk (.some 10) (.s2b 5 (.t 9))
 (.some (7, .true)) 9 .none .false [] .false, .mk (.some 11) (.call 78 [.t 10, .f 79]) (.some (7, .true)) 10 .none .false [] .false,o1 12 (.pick (.t 7) (.t 11) (.k (.bool .false))) 11,o1 13 (.mv (.t 12)) 12, .mk (.some 14) (.faddr 1 (.t 1)) (.some (13, .true)) 13 .none .false []
 .false, .mk (.some 15) (.load 1 .false (.t 14)) (.some (13, .true)) 14 .none .false [] .false, .mk (.some 16) (.call 67 [.t 15, .k (.int .i64 99)]) (.some (13, .true)) 15 .none
 .false [] .false,o1 17 (.pick (.t 13) (.t 16) (.k (.bool .false))) 16,o1 2 (.mv (.t 17)) 17]) .ret)
def rs58:List IRes:=[.tmp 2]
set_option maxRecDepth 100000 in
theorem comp58:Comp Try.prog 58 ir58 rs58 18:=⟨⟨_,_,18,Try.func58,rfl,by kernel_rfl,by kernel_rfl,rfl⟩⟩
theorem body58:HasBody Try.prog 58:=hasBody_of (by kernel_rfl)

def ir65:IC :=
 .seq (.reg 4 1 [o1 9 (.mv (.k (.bool .false))) 4]) (.seq (.seq (.reg 5 2 [o1 11 (.mv (.t 2)) 5,o1 12 (.bin .eql (.t 11) (.k (.int .i64 0))) 6]) (.cond (.t 12) (.seq (.draw 7 7 [0,3] [] [o3 13 (.load 65 .true (.t 3)) 7,o3 14 (.mv (.t 0)) 8,o3 15 (.call 62 [.t 13, .t 14]) 9,o3 16 (.faddr 5 (.t 3)) 10,o3 17 (.load 60 .true (.t 16)) 11, .mk (.some 18) (.pur (.bin .eql 95) [.t 15, .t
 17]) .none 12 (.some [9]) .true [] .false, .mk (.some 9) (.mv (.t 18)) .none 13 (.some [9]) .true [] .false]) .ret) .skip)) (.seq (.seq (.reg 14 2 [o1 19 (.mv (.t 1)) 14,o1 10 (.mv (.t 19)) 15]) (.block 0 (.loop (.seq (.seq (.reg 16 4 [o1 20 (.mv (.t 10)) 16,o1 21 (.load 1 .false (.t 4)) 17,o1 22 (.len (.t 21)) 18,o1 23 (.bin .lss (.t 20) (.t 22)) 19]) (.cond (.t 23) .skip (.exit 0))) (.seq (.block 1 (.seq (.drawd 20 13 [] [] [] [.some [5], .none, .some [4], .none, .none,
 .none, .none, .some [0], .none, .none, .none, .none, .none] [(0,o3 26 (.load 1 .false (.t 5)) 20),(1,o3 27 (.mv (.t 0)) 21),(2,o3 28 (.load 1 .false (.t 4)) 22),(3,o3 29 (.mv (.t 10)) 23),(4, .mk (.some 30) (.iaddr 1 (.t 28) (.t 29)) .none 24 (.some []) .true [3,2] .false),(5, .mk (.some 31) (.load 1 .false (.t 30)) .none 25 (.some []) .true [2,3,4]
 .false),(6, .mk (.some 32) (.bsl 3 1 1 [.int .i64 0] [(0, .t 31)]) .none 26 (.some []) .true [4,3,2,5] .false),(7, .mk (.some 33) (.app 3 1 8 (.t 27) (.t 32)) .none 27 (.some
 [26]) .true [5,2,3,4,6,1] .true),(8,o3 34 (.mv (.t 10)) 28),(9, .mk (.some 35) (.bin .add (.t 34) (.k (.int .i64 1))) .none 29
 (.some []) .true [8] .false),(10,o3 36 (.mv (.t 2)) 30),(11, .mk (.some 37) (.bin .sub (.t 36) (.k (.int .i64 1))) .none 31 (.some [])
 .true [10] .false),(12, .mk (.some 38) (.callv (.t 26) [.t 33, .t 35, .t 37]) .none 32 (.some [26,27]) .true [10,11,8,9,1,6,4,3,2,5,7,0] .false)]) (.cond (.t 38)
 (.seq (.reg 33 1 [o1 9 (.mv (.k (.bool .true))) 33]) .ret) .skip))) (.reg 34 3 [o1 24 (.mv (.t 10)) 34,
 o1 25 (.bin .add (.t 24) (.k (.int .i64 1))) 35,o1 10 (.mv (.t 25)) 36])))))) (.seq (.reg 37 1 [o1 9 (.mv (.k (.bool .false))) 37]) .ret)))
def rs65:List IRes:=[.tmp 9]
set_option maxRecDepth 100000 in
theorem comp65:CompAt Try.prog 65 4 ir65 rs65 39:=⟨⟨_,_,38,Try.func65,rfl,by kernel_rfl,by kernel_rfl,rfl⟩⟩
theorem body65:HasBody Try.prog 65:=hasBody_of (by kernel_rfl)

end Go.Proofs.Ytpcpjmplgladmaa
