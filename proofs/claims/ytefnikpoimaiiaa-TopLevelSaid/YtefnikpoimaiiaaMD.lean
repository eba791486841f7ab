/- The intermediate forms of functions of the program (printed by a program of mine), each checked against the code. The intermediate forms of functions of the program (printed by a program of mine), each checked against the code. The intermediate forms of functions of the program (printed by a program of mine), each checked against the code. Contracts with a ghost; published slices: lemmas for their use. Readings of values, typed; contracts by them. Functions whose results bear function values in rows or structs: own blocks may be published at their end. Equality of structs of two numbers. Equality of arrays of truth values. The drawn values: how each type is read; the frame of a row that says 'it returns true, and the arguments read as before'. What a contract says of published rows is said of rows that are lent, too, where the callee does not change them. -/
import Derived.Test.YtefnikpoimaiiaaMC
import Derived.Test.YtefnikpoimaiiaaProg
import Derived.KernelRfl
import Derived.WalkSpells
import Derived.WalkLawsBesides
import Derived.ChangeKeysEq
import Derived.ProofKit
import Derived.Deep.Slices
import Derived.Deep.Fields
import Derived.ChangeSame
import Derived.Lib.SmallJoins
import Derived.OpenShut
import Derived.ChangeOld
import Derived.Below
set_option linter.unusedSimpArgs false
set_option linter.unusedVariables false
namespace Go.Proofs.Ytefnikpoimaiiaa
open Go.Pal
def ir58:IC :=
 .seq (.reg 0 2 [o1 6 (.alloc 165 [.slice .none 0 0, .slice .none 0 0]) 0,o1 7 (.mv (.k (.int .i64 0))) 1]) (.seq (.reg 2 7 [o1 10 (.mv (.t 0)) 2,o1 11 (.bld [(0,1)] [.slice .none 0 0] [(0, .t 10)]) 3,o1 12 (.mv (.t 1)) 4,o1 13 (.bld [(0,1)] [.slice .none 0 0] [(0, .t 12)]) 5,o1 14 (.bld [(0,1),(1,1)] [.slice .none 0 0, .slice .none 0 0] [(0, .t 11),(1, .t 13)]) 6,o1 8 (.alloc 165 [.slice .none 0 0, .slice .none 0 0]) 7,o2 (.store 2 (.t 8) (.t 14)) 8]) (.seq (.reg 9 4 [o1 15 (.mv (.t 0)) 9,o1 16 (.mv (.t 1)) 10,o1 17 (.call 88 [.t 15, .t 16]) 11,o1 9 (.mv (.t 17)) 12]) (.seq (.seq (.reg 13 8 [o1 18 (.mv (.t 9)) 13,o1 19 (.bin .eql (.t 18) (.k (.int .i64 0))) 14,o1 20 (.mv (.t 19)) 15, .mk (.some 21) (.load 2 .true (.t 8)) (.some (20, .true)) 16 .none .false [] .false, .mk (.some 22)
 (.mv (.t 2)) (.some (20, .true)) 17 .none .false [] .false, .mk (.some 23) (.call 89 [.t 21, .t 22]) (.some (20, .true)) 18 .none .false [] .false, .mk (.some 24) (.un .not (.t
 23)) (.some (20, .true)) 19 .none .false [] .false,o1 25 (.pick (.t 20) (.t 24) (.k (.bool .false))) 20]) (.cond (.t 25) (.reg 21 1 [o1 9 (.mv (.k (.int .i64 9))) 21]) .skip)) (.seq (.reg 22 4 [o1 26 (.load 2 .true (.t 8)) 22,o1 27 (.mv (.t 9)) 23,o2 (.store 2 (.t 6) (.t 26)) 24,o1 7 (.mv (.t 27)) 25]) .ret))))
def rs58:List IRes:=[.cell 6 2 .true, .tmp 7]
set_option maxRecDepth 100000 in
theorem comp58:Comp Try.prog 58 ir58 rs58 28:=⟨⟨_,_,26,Try.func58,rfl,by kernel_rfl,by kernel_rfl,rfl⟩⟩
theorem body58:HasBody Try.prog 58:=hasBody_of (by kernel_rfl)

def ir60:IC :=
 .seq (.reg 0 2 [o1 1 (.box 163 (.t 0)) 0,o1 2 (.mv (.k (.int .i64 0))) 1]) (.seq (.seq (.reg 2 4 [o1 5 (.faddr 0 (.t 1)) 2,o1 6 (.load 1 .false (.t 5)) 3,o1 7 (.len (.t 6)) 4,o1 8 (.mv (.k (.int .i64 0))) 5]) (.block 0 (.loop (.seq (.reg 6 1 [o1 9 (.bin .lss (.t 8) (.t 7)) 6]) (.seq (.cond (.t 9) .skip (.exit 0)) (.seq (.block 1 (.seq (.reg 7 4 [o1 10 (.iaddr 2 (.t 6) (.t 8)) 7,o1 11 (.load 2 .true (.t 10)) 8,o1 4 (.alloc 177 [.slice .none 0 0, .int .i64 0]) 9,o2 (.store 2 (.t 4) (.t 11)) 10]) (.reg 11 5 [o1 12 (.mv (.t 2)) 11,o1 13 (.faddr 1 (.t 4)) 12,o1 14 (.load 1 .false (.t 13)) 13,o1 15 (.bin .add (.t 12) (.t 14)) 14,o1 2 (.mv (.t 15)) 15]))) (.reg 16 2 [o1 16 (.bin .add (.t 8) (.k (.int .i64 1))) 16,o1 8 (.mv (.t 16)) 17]))))))) (.seq (.reg 18 2 [o1 17 (.mv (.t 2)) 18,o1 2 (.mv (.t 17)) 19]) .ret))
def rs60:List IRes:=[.tmp 2]
set_option maxRecDepth 100000 in
theorem comp60:Comp Try.prog 60 ir60 rs60 18:=⟨⟨_,_,20,Try.func60,rfl,by kernel_rfl,by kernel_rfl,rfl⟩⟩
theorem body60:HasBody Try.prog 60:=hasBody_of (by kernel_rfl)

def ir88:IC :=
 .seq (.reg 0 1 [o1 4 (.mv (.k (.int .i64 0))) 0]) (.seq (.reg 1 1 [o1 5 (.mv (.f 126)) 1]) (.seq (.block
 0 (.seq (.reg 2 21 [o1 7 (.mv (.t 0)) 2,o1 8 (.len (.t 7)) 3,o1 9 (.bin .gtr (.t 8) (.k (.int .i64 20))) 4,o1 10 (.mv (.t 9)) 5, .mk (.some 11) (.mv (.t 1)) (.some (10, .false)) 6 .none .false []
 .false, .mk (.some 12) (.len (.t 11)) (.some (10, .false)) 7 .none .false [] .false, .mk (.some 13) (.bin .gtr (.t 12) (.k (.int .i64 20))) (.some (10, .false)) 8 .none .false []
 .false,o1 14 (.pick (.t 10) (.k (.bool .true)) (.t 13)) 9,o1 15 (.mv (.t 14)) 10, .mk (.some 16) (.mv
 (.t 0)) (.some (15, .false)) 11 .none .false [] .false, .mk (.some 17) (.mv (.t 5)) (.some (15, .false)) 12 .none .false [] .false, .mk (.some 18) (.call 127 [.t 16, .t 17])
 (.some (15, .false)) 13 .none .false [] .false, .mk (.some 19) (.un .not (.t 18)) (.some (15, .false)) 14 .none .false [] .false,o1 20 (.pick (.t 15) (.k (.bool .true)) (.t 19)) 15,o1 21 (.mv (.t 20)) 16, .mk (.some 22) (.mv (.t 1)) (.some (21, .false)) 17 .none .false [] .false,
 .mk (.some 23) (.mv (.t 5)) (.some (21, .false)) 18 .none .false [] .false, .mk (.some 24) (.call 127 [.t 22, .t 23]) (.some (21, .false)) 19 .none .false [] .false, .mk (.some
 25) (.un .not (.t 24)) (.some (21, .false)) 20 .none .false [] .false,o1 26 (.pick (.t 21) (.k (.bool .true)) (.t 25)) 21,o1 6 (.mv (.t 26)) 22]) (.cond (.t 6) (.seq (.reg 23 1 [o1 4 (.mv (.k (.int .i64 3))) 23]) .ret) (.seq (.reg 24 9
 [o1 28 (.mv (.t 0)) 24,o1 29 (.call 127 [.t 28, .f 128]) 25,o1 30 (.un .not (.t 29)) 26,o1 31 (.mv (.t 30)) 27, .mk (.some 32) (.mv (.t 1)) (.some (31, .false)) 28 .none .false [] .false, .mk (.some 33)
 (.call 127 [.t 32, .f 128]) (.some (31, .false)) 29 .none .false [] .false, .mk (.some 34) (.un .not (.t 33)) (.some (31, .false)) 30 .none .false [] .false,o1 35 (.pick (.t 31) (.k (.bool .true)) (.t 34)) 31,o1 27 (.mv (.t 35)) 32]) (.cond (.t 27) (.seq (.reg 33 1 [o1 4 (.mv (.k (.int .i64 1))) 33]) .ret) .skip))))) (.seq (.reg 34 1 [o1 4 (.mv (.k (.int .i64 0))) 34]) .ret)))
def rs88:List IRes:=[.tmp 4]
set_option maxRecDepth 100000 in
theorem comp88:Comp Try.prog 88 ir88 rs88 36:=⟨⟨_,_,35,Try.func88,rfl,by kernel_rfl,by kernel_rfl,rfl⟩⟩
theorem body88:HasBody Try.prog 88:=hasBody_of (by kernel_rfl)

def ir89:IC :=
 .seq (.reg 0 2 [o1 2 (.box 165 (.t 0)) 0,o1 4 (.mv (.k (.bool .false))) 1]) (.seq (.reg 2 3 [o1 8 (.bld [(0,1),(1,1)] [.int .i64 0, .int .i64 0] []) 2,o1 5 (.alloc 169 [.int .i64 0, .int .i64 0]) 3,o2 (.store 2 (.t 5) (.t 8)) 4]) (.seq (.seq (.reg 5 3 [o1 9 (.mv (.t 1)) 5,o1 10 (.len (.t 9)) 6,o1 11 (.mv (.k (.int .i64 0))) 7]) (.block 0 (.loop (.seq (.reg 8 1 [o1 12 (.bin .lss (.t 11) (.t 10)) 8]) (.seq (.cond (.t 12) .skip (.exit 0)) (.seq (.block 1 (.seq (.reg 9 4 [o1 13 (.iaddr 2 (.t 9) (.t 11)) 9,o1 14 (.load 2 .true (.t 13)) 10,o1 7 (.alloc 103 [.int .i64 0, .int .i64 0]) 11,o2 (.store 2 (.t 7) (.t 14)) 12]) (.seq (.seq (.draw 13 4 [7] [] [o3 15 (.call 130 []) 13,o3 16 (.load 2 .true (.t 7)) 14, .mk (.some 17) (.call 129 [.t 15, .t 16]) .none 15 (.some [13]) .false [] .false, .mk (.some 18) (.un .not (.t 17))
 .none 16 (.some [13,15]) .true [] .false]) (.cond (.t 18) (.seq (.reg 17 1 [o1 4 (.mv (.k (.bool .false))) 17]) .ret) .skip)) (.seq (.reg 18
 12 [o1 19 (.faddr 0 (.t 5)) 18,o1 20 (.load 1 .false (.t 19)) 19,o1 21 (.faddr 0 (.t 7)) 20,o1 22 (.load 1 .false (.t 21)) 21,o1 23 (.bin .add (.t 20) (.t 22)) 22,o1 24 (.faddr 1 (.t 5)) 23,o1 25 (.load 1 .false (.t 24)) 24,o1 26 (.faddr 1 (.t 7)) 25,o1 27 (.load 1 .false (.t 26)) 26,o1 28 (.bin .add (.t 25) (.t 27)) 27,o1 29 (.bld [(0,1),(1,1)] [.int .i64 0, .int .i64 0] [(0, .t 23),(1, .t 28)]) 28,o2 (.store 2 (.t 5) (.t 29)) 29]) (.seq (.reg 30 16 [o1 30 (.faddr 0 (.t 5)) 30,o1 31 (.load 1 .false (.t 30)) 31,o1 32 (.faddr 0 (.t 2)) 32,o1 33 (.faddr 0 (.t 32)) 33,o1 34 (.load 1 .false (.t 33)) 34,o1 35 (.len (.t 34)) 35,o1 36 (.bin .gtr (.t 31) (.t 35)) 36,
 o1 37 (.mv (.t 36)) 37, .mk (.some 38) (.faddr 1 (.t 5)) (.some (37, .false)) 38 .none .false [] .false, .mk (.some 39) (.load 1 .false (.t
 38)) (.some (37, .false)) 39 .none .false [] .false, .mk (.some 40) (.faddr 1 (.t 2)) (.some (37, .false)) 40 .none .false [] .false, .mk (.some 41) (.faddr 0 (.t 40)) (.some (37,
 .false)) 41 .none .false [] .false, .mk (.some 42) (.load 1 .false (.t 41)) (.some (37, .false)) 42 .none .false [] .false, .mk (.some 43) (.len (.t 42)) (.some (37, .false)) 43
 .none .false [] .false, .mk (.some 44) (.bin .gtr (.t 39) (.t 43)) (.some (37, .false)) 44 .none .false [] .false,o1 45 (.pick (.t 37) (.k (.bool .true)) (.t 44)) 45]) (.cond (.t 45) (.seq (.reg 46 1 [o1 4 (.mv (.k (.bool .false))) 46]) .ret) .skip)))))) (.reg 47 2 [o1 46 (.bin .add (.t 11) (.k (.int .i64 1))) 47,o1 11 (.mv (.t 46)) 48]))))))) (.seq (.draw 49 5 [2] [] [o3 47 (.load 2 .true (.t 5)) 49,o3 48 (.load 2 .true (.t 2)) 50,o3 49 (.call 131 [.t 48]) 51, .mk (.some 50) (.pur (.bin .eql 169) [.t 47, .t 49]) .none 52 (.some [51]) .true [] .false, .mk (.some 4) (.mv (.t 50)) .none 53 (.some [51]) .true
 [] .false]) .ret)))
def rs89:List IRes:=[.tmp 4]
set_option maxRecDepth 100000 in
theorem comp89:Comp Try.prog 89 ir89 rs89 51:=⟨⟨_,_,54,Try.func89,rfl,by kernel_rfl,by kernel_rfl,rfl⟩⟩
theorem body89:HasBody Try.prog 89:=hasBody_of (by kernel_rfl)

def ir126:IC :=
 .seq (.reg 0 2 [o1 1 (.box 177 (.t 0)) 0,o1 2 (.mv (.k (.bool .false))) 1]) (.seq (.reg 2 5 [o1 3 (.faddr 0 (.t 1)) 2,o1 4 (.load 1 .false (.t 3)) 3,o1 5 (.len (.t 4)) 4,o1 6 (.bin .leq (.t 5) (.k (.int .i64 12))) 5,o1 2 (.mv (.t 6)) 6]) .ret)
def rs126:List IRes:=[.tmp 2]
set_option maxRecDepth 100000 in
theorem comp126:Comp Try.prog 126 ir126 rs126 7:=⟨⟨_,_,7,Try.func126,rfl,by kernel_rfl,by kernel_rfl,rfl⟩⟩
theorem body126:HasBody Try.prog 126:=hasBody_of (by kernel_rfl)

def ir127:IC :=
 .seq (.reg 0 2 [o1 3 (.box 246 (.t 1)) 0,o1 4 (.mv (.k (.bool .false))) 1]) (.seq (.reg 2 5 [o1 5 (.mv (.t 0)) 2,o1 6 (.mkf 163 [] [.t 3]) 3,o1 7 (.call 162 [.t 5, .t 6]) 4,o1 8 (.un .not (.t 7)) 5,o1 4 (.mv (.t 8)) 6]) .ret)
def rs127:List IRes:=[.tmp 4]
set_option maxRecDepth 100000 in
theorem comp127:Comp Try.prog 127 ir127 rs127 9:=⟨⟨_,_,7,Try.func127,rfl,by kernel_rfl,by kernel_rfl,rfl⟩⟩
theorem body127:HasBody Try.prog 127:=hasBody_of (by kernel_rfl)

def ir128:IC :=
 .seq (.reg 0 2 [o1 1 (.box 177 (.t 0)) 0,o1 2 (.mv (.k (.bool .false))) 1]) (.seq (.reg 2 14 [o1 3 (.faddr 0 (.t 1)) 2,o1 4 (.load 1 .false (.t 3)) 3,o1 5 (.call 164 [.t 4]) 4,o1 6 (.mv (.t 5)) 5, .mk (.some 7) (.faddr 0 (.t 1)) (.some (6, .true)) 6 .none .false [] .false, .mk (.some 8) (.load 1 .false (.t
 7)) (.some (6, .true)) 7 .none .false [] .false, .mk (.some 9) (.call 165 [.t 8, .f 166]) (.some (6, .true)) 8 .none .false [] .false,o1 10 (.pick (.t 6) (.t 9) (.k (.bool .false))) 9,o1 11 (.mv (.t 10)) 10, .mk (.some 12) (.faddr 1 (.t 1)) (.some (11, .true)) 11 .none .false
 [] .false, .mk (.some 13) (.load 1 .false (.t 12)) (.some (11, .true)) 12 .none .false [] .false, .mk (.some 14) (.call 167 [.t 13, .k (.int .i64 1), .k (.int .i64 200)]) (.some
 (11, .true)) 13 .none .false [] .false,o1 15 (.pick (.t 11) (.t 14) (.k (.bool .false))) 14,o1 2 (.mv (.t 15)) 15]) .ret)
def rs128:List IRes:=[.tmp 2]
set_option maxRecDepth 100000 in
theorem comp128:Comp Try.prog 128 ir128 rs128 16:=⟨⟨_,_,16,Try.func128,rfl,by kernel_rfl,by kernel_rfl,rfl⟩⟩
theorem body128:HasBody Try.prog 128:=hasBody_of (by kernel_rfl)

def ir129:IC :=
 .seq (.reg 0 2 [o1 3 (.box 103 (.t 1)) 0,o1 4 (.mv (.k (.bool .false))) 1]) (.seq (.reg 2 5 [o1 5 (.mv (.t 0)) 2,o1 6 (.load 2 .true (.t 3)) 3,o1 7 (.call 168 [.t 5, .t 6]) 4,o1 8 (.bin .geq (.t 7) (.k (.int .i64 0))) 5,o1 4 (.mv (.t 8)) 6]) .ret)
def rs129:List IRes:=[.tmp 4]
set_option maxRecDepth 100000 in
theorem comp129:Comp Try.prog 129 ir129 rs129 9:=⟨⟨_,_,7,Try.func129,rfl,by kernel_rfl,by kernel_rfl,rfl⟩⟩
theorem body129:HasBody Try.prog 129:=hasBody_of (by kernel_rfl)

def ir130:IC :=
 .seq (.reg 0 1 [o1 0 (.mv (.k (.slice .none 0 0))) 0]) (.seq (.reg 1 7 [o1 1 (.bld [(0,1),(1,1)] [.int .i64 0, .int .i64 0] [(0, .k (.int .i64 2)),(1, .k (.int .i64 1))]) 1,o1 2 (.bld [(0,1),(1,1)] [.int .i64 0, .int .i64 0] [(0, .k (.int .i64 1)),(1, .k (.int .i64 2))]) 2,o1 3 (.bld [(0,1),(1,1)] [.int .i64 0, .int .i64 0] [(0, .k (.int .i64 1)),(1, .k (.int .i64 1))]) 3,o1 4 (.bld [(0,1),(1,1)] [.int .i64 0, .int .i64 0] [(0, .k (.int .i64 1)),(1, .k (.int .i64 0))]) 4,o1 5 (.bld [(0,1),(1,1)] [.int .i64 0, .int .i64 0] [(0, .k (.int .i64 0)),(1, .k (.int .i64 1))]) 5,o1 6 (.bsl 103 2 5 [.int .i64 0, .int .i64 0, .int .i64 0, .int .i64 0, .int .i64 0, .int .i64 0, .int .i64 0, .int .i64 0, .int .i64 0, .int .i64 0] [(0, .t 1),(1, .t 2),(2, .t 3),(3, .t 4),(4, .t 5)]) 6,o1 0 (.mv (.t 6)) 7]) .ret)
def rs130:List IRes:=[.tmp 0]
set_option maxRecDepth 100000 in
theorem comp130:Comp Try.prog 130 ir130 rs130 7:=⟨⟨_,_,8,Try.func130,rfl,by kernel_rfl,by kernel_rfl,rfl⟩⟩
theorem body130:HasBody Try.prog 130:=hasBody_of (by kernel_rfl)

def ir131:IC :=
 .seq (.reg 0 2 [o1 1 (.box 165 (.t 0)) 0,o1 2 (.alloc 169 [.int .i64 0, .int .i64 0]) 1]) (.seq (.reg 2
 10 [o1 3 (.faddr 0 (.t 1)) 2,o1 4 (.faddr 0 (.t 3)) 3,o1 5 (.load 1 .false (.t 4)) 4,o1 6 (.len (.t 5)) 5,o1 7 (.faddr 1 (.t 1)) 6,o1 8 (.faddr 0 (.t 7)) 7,o1 9 (.load 1 .false (.t 8)) 8,o1 10 (.len (.t 9)) 9,o1 11 (.bld [(0,1),(1,1)] [.int .i64 0, .int .i64 0] [(0, .t 6),(1, .t 10)]) 10,o2 (.store 2 (.t 2) (.t 11)) 11])
 .ret)
def rs131:List IRes:=[.cell 2 2 .true]
set_option maxRecDepth 100000 in
theorem comp131:Comp Try.prog 131 ir131 rs131 12:=⟨⟨_,_,12,Try.func131,rfl,by kernel_rfl,by kernel_rfl,rfl⟩⟩
theorem body131:HasBody Try.prog 131:=hasBody_of (by kernel_rfl)

def ir162:IC :=
 .seq (.reg 1 1 [o1 4 (.mv (.k (.bool .false))) 1]) (.seq (.reg 2 5 [o1 5 (.mv (.t 0)) 2,o1 6 (.mv (.t 1)) 3,o1 7 (.call 192 [.t 5, .t 6]) 4,o1 8 (.bin .geq (.t 7) (.k (.int .i64 0))) 5,o1 4 (.mv (.t 8)) 6]) .ret)
def rs162:List IRes:=[.tmp 4]
set_option maxRecDepth 100000 in
theorem comp162:CompAt Try.prog 162 1 ir162 rs162 9:=⟨⟨_,_,7,Try.func162,rfl,by kernel_rfl,by kernel_rfl,rfl⟩⟩
theorem body162:HasBody Try.prog 162:=hasBody_of (by kernel_rfl)

def ir163:IC :=
 .seq (.reg 1 2 [o1 2 (.box 177 (.t 0)) 1,o1 3 (.mv (.k (.bool .false))) 2]) (.seq (.reg 3 5 [o1 4 (.load 1 .false (.t 1)) 3,o1 5 (.load 2 .true (.t 2)) 4,o1 6 (.callv (.t 4) [.t 5]) 5,o1 7 (.un .not (.t 6)) 6,o1 3 (.mv (.t 7)) 7]) .ret)
def rs163:List IRes:=[.tmp 3]
set_option maxRecDepth 100000 in
theorem comp163:CompAt Try.prog 163 1 ir163 rs163 8:=⟨⟨_,_,8,Try.func163,rfl,by kernel_rfl,by kernel_rfl,rfl⟩⟩
theorem body163:HasBody Try.prog 163:=hasBody_of (by kernel_rfl)

def ir164:IC :=
 .seq (.reg 0 1 [o1 2 (.mv (.k (.bool .false))) 0]) (.seq (.seq (.reg 1 3 [o1 4 (.mv (.t 0)) 1,o1 5 (.len (.t 4)) 2,o1 6 (.mv (.k (.int .i64 0))) 3]) (.block 0 (.loop (.seq (.reg 4 1 [o1 7 (.bin .lss (.t 6) (.t 5)) 4]) (.seq (.cond (.t 7) .skip (.exit 0)) (.seq (.block 1 (.seq (.reg 5 2 [o1 8 (.mv (.t 6)) 5,
 o1 3 (.mv (.t 8)) 6]) (.seq (.draw 7 14 [] [] [o3 9 (.mv (.t 3)) 7,o3 10 (.bin .gtr (.t 9) (.k (.int .i64 0))) 8,o3 11 (.mv (.t 10)) 9, .mk (.some 12) (.mv (.t 0)) (.some (11, .true)) 10
 (.some []) .true [] .false, .mk (.some 13) (.mv (.t 3)) (.some (11, .true)) 11 (.some []) .true [] .false, .mk (.some 14) (.iaddr 1 (.t 12) (.t 13)) (.some (11, .true)) 12 (.some
 []) .true [] .false, .mk (.some 15) (.load 1 .false (.t 14)) (.some (11, .true)) 13 (.some []) .true [] .false, .mk (.some 16) (.mv (.t 0)) (.some (11, .true)) 14 (.some []) .true
 [] .false, .mk (.some 17) (.mv (.t 3)) (.some (11, .true)) 15 (.some []) .true [] .false, .mk (.some 18) (.bin .sub (.t 17) (.k (.int .i64 1))) (.some (11, .true)) 16 (.some [])
 .true [] .false, .mk (.some 19) (.iaddr 1 (.t 16) (.t 18)) (.some (11, .true)) 17 (.some []) .true [] .false, .mk (.some 20) (.load 1 .false (.t 19)) (.some (11, .true)) 18 (.some
 []) .true [] .false, .mk (.some 21) (.bin .leq (.t 15) (.t 20)) (.some (11, .true)) 19 (.some []) .true [] .false,o3 22 (.pick (.t 11) (.t 21) (.k (.bool .false))) 20]) (.cond (.t 22) (.seq (.reg 21 1 [o1 2 (.mv (.k (.bool .false))) 21]) .ret) .skip)))) (.reg 22 2 [o1 23 (.bin .add (.t 6) (.k (.int .i64 1))) 22,o1 6 (.mv (.t 23)) 23]))))))) (.seq (.reg 24 1 [o1 2 (.mv (.k (.bool .true))) 24]) .ret))
def rs164:List IRes:=[.tmp 2]
set_option maxRecDepth 100000 in
theorem comp164:Comp Try.prog 164 ir164 rs164 24:=⟨⟨_,_,25,Try.func164,rfl,by kernel_rfl,by kernel_rfl,rfl⟩⟩
theorem body164:HasBody Try.prog 164:=hasBody_of (by kernel_rfl)

def ir165:IC :=
 .seq (.reg 0 2 [o1 3 (.box 136 (.t 1)) 0,o1 4 (.mv (.k (.bool .false))) 1]) (.seq (.reg 2 5 [o1 5 (.mv (.t 0)) 2,o1 6 (.mkf 193 [] [.t 3]) 3,o1 7 (.call 150 [.t 5, .t 6]) 4,o1 8 (.un .not (.t 7)) 5,o1 4 (.mv (.t 8)) 6]) .ret)
def rs165:List IRes:=[.tmp 4]
set_option maxRecDepth 100000 in
theorem comp165:Comp Try.prog 165 ir165 rs165 9:=⟨⟨_,_,7,Try.func165,rfl,by kernel_rfl,by kernel_rfl,rfl⟩⟩
theorem body165:HasBody Try.prog 165:=hasBody_of (by kernel_rfl)

def ir150:IC :=
 .seq (.reg 1 1 [o1 4 (.mv (.k (.bool .false))) 1]) (.seq (.reg 2 5 [o1 5 (.mv (.t 0)) 2,o1 6 (.mv (.t 1)) 3,o1 7 (.call 158 [.t 5, .t 6]) 4,o1 8 (.bin .geq (.t 7) (.k (.int .i64 0))) 5,o1 4 (.mv (.t 8)) 6]) .ret)
def rs150:List IRes:=[.tmp 4]
set_option maxRecDepth 100000 in
theorem comp150:CompAt Try.prog 150 1 ir150 rs150 9:=⟨⟨_,_,7,Try.func150,rfl,by kernel_rfl,by kernel_rfl,rfl⟩⟩
theorem body150:HasBody Try.prog 150:=hasBody_of (by kernel_rfl)

def ir158:IC :=
 .seq (.reg 1 1 [o1 4 (.mv (.k (.int .i64 0))) 1]) (.seq (.seq (.reg 2 3 [o1 6 (.mv (.t 0)) 2,o1 7 (.len (.t 6)) 3,o1 8 (.mv (.k (.int .i64 0))) 4]) (.block 0 (.loop (.seq (.reg 5 1 [o1 9 (.bin .lss (.t 8) (.t 7)) 5]) (.seq (.cond (.t 9) .skip (.exit 0)) (.seq (.block 1 (.seq (.reg 6 2 [o1 10 (.mv (.t 8)) 6,
 o1 5 (.mv (.t 10)) 7]) (.seq (.reg 8 6 [o1 11 (.mv (.t 1)) 8,o1 12 (.mv (.t 0)) 9,o1 13 (.mv (.t 5)) 10,o1 14 (.iaddr 1 (.t 12) (.t 13)) 11,o1 15 (.load 1 .false (.t 14)) 12,o1 16 (.callv (.t 11) [.t 15]) 13]) (.cond (.t 16) (.seq (.reg 14 2 [o1 17 (.mv (.t 5)) 14,o1 4 (.mv (.t 17)) 15]) .ret) .skip)))) (.reg 16 2 [o1 18 (.bin .add (.t 8) (.k (.int .i64 1))) 16,o1 8 (.mv (.t 18)) 17]))))))) (.seq (.reg 18 1 [o1 4 (.mv (.k (.int .i64 (-1)))) 18]) .ret))
def rs158:List IRes:=[.tmp 4]
set_option maxRecDepth 100000 in
theorem comp158:CompAt Try.prog 158 1 ir158 rs158 19:=⟨⟨_,_,19,Try.func158,rfl,by kernel_rfl,by kernel_rfl,rfl⟩⟩
theorem body158:HasBody Try.prog 158:=hasBody_of (by kernel_rfl)

def ir166:IC :=
 .seq (.reg 0 1 [o1 2 (.mv (.k (.bool .false))) 0]) (.seq (.reg 1 3 [o1 3 (.mv (.t 0)) 1,o1 4 (.call 167 [.t 3, .k (.int .i64 0), .k (.int .i64 999)]) 2,o1 2 (.mv (.t 4)) 3]) .ret)
def rs166:List IRes:=[.tmp 2]
set_option maxRecDepth 100000 in
theorem comp166:Comp Try.prog 166 ir166 rs166 5:=⟨⟨_,_,4,Try.func166,rfl,by kernel_rfl,by kernel_rfl,rfl⟩⟩
theorem body166:HasBody Try.prog 166:=hasBody_of (by kernel_rfl)

def ir167:IC :=
 .seq (.reg 0 1 [o1 6 (.mv (.k (.bool .false))) 0]) (.seq (.reg 1 9 [o1 7 (.mv (.t 1)) 1,o1 8 (.mv (.t 0)) 2,o1 9 (.bin .leq (.t 7) (.t 8)) 3,o1 10 (.mv (.t 9)) 4,
 .mk (.some 11) (.mv (.t 0)) (.some (10, .true)) 5 .none .false [] .false, .mk (.some 12) (.mv (.t 2)) (.some (10, .true)) 6 .none .false [] .false, .mk (.some 13) (.bin .leq (.t
 11) (.t 12)) (.some (10, .true)) 7 .none .false [] .false,o1 14 (.pick (.t 10) (.t 13) (.k (.bool .false))) 8,o1 6 (.mv (.t 14)) 9]) .ret)
def rs167:List IRes:=[.tmp 6]
set_option maxRecDepth 100000 in
theorem comp167:Comp Try.prog 167 ir167 rs167 15:=⟨⟨_,_,10,Try.func167,rfl,by kernel_rfl,by kernel_rfl,rfl⟩⟩
theorem body167:HasBody Try.prog 167:=hasBody_of (by kernel_rfl)

def ir168:IC :=
 .seq (.reg 0 2 [o1 3 (.box 103 (.t 1)) 0,o1 4 (.mv (.k (.int .i64 0))) 1]) (.seq (.seq (.reg 2 3 [o1 6 (.mv (.t 0)) 2,o1 7 (.len (.t 6)) 3,o1 8 (.mv (.k (.int .i64 0))) 4]) (.block 0 (.loop (.seq (.reg 5 1 [o1 9 (.bin .lss (.t 8) (.t 7)) 5]) (.seq (.cond (.t 9) .skip (.exit 0)) (.seq (.block 1 (.seq
 (.reg 6 2 [o1 10 (.mv (.t 8)) 6,o1 5 (.mv (.t 10)) 7]) (.seq (.draw 8 6 [] [] [o3 11 (.load 2 .true (.t 3)) 8,o3 12 (.mv (.t 0)) 9,o3 13 (.mv (.t 5)) 10,
 o3 14 (.iaddr 2 (.t 12) (.t 13)) 11,o3 15 (.load 2 .true (.t 14)) 12,o3 16 (.pur (.bin .eql 103) [.t 11, .t 15]) 13]) (.cond (.t 16) (.seq (.reg 14 2 [o1 17 (.mv (.t 5)) 14,o1 4 (.mv (.t 17)) 15]) .ret) .skip)))) (.reg 16 2 [o1 18 (.bin .add (.t 8) (.k (.int .i64 1))) 16,o1 8 (.mv (.t 18)) 17]))))))) (.seq (.reg 18 1 [o1 4 (.mv (.k (.int .i64 (-1)))) 18]) .ret))
def rs168:List IRes:=[.tmp 4]
set_option maxRecDepth 100000 in
theorem comp168:Comp Try.prog 168 ir168 rs168 19:=⟨⟨_,_,19,Try.func168,rfl,by kernel_rfl,by kernel_rfl,rfl⟩⟩
theorem body168:HasBody Try.prog 168:=hasBody_of (by kernel_rfl)

def ir192:IC :=
 .seq (.reg 1 1 [o1 4 (.mv (.k (.int .i64 0))) 1]) (.seq (.seq (.reg 2 3 [o1 6 (.mv (.t 0)) 2,o1 7 (.len (.t 6)) 3,o1 8 (.mv (.k (.int .i64 0))) 4]) (.block 0 (.loop (.seq (.reg 5 1 [o1 9 (.bin .lss (.t 8) (.t 7)) 5]) (.seq (.cond (.t 9) .skip (.exit 0)) (.seq (.block 1 (.seq (.reg 6 2 [o1 10 (.mv (.t 8)) 6,
 o1 5 (.mv (.t 10)) 7]) (.seq (.reg 8 6 [o1 11 (.mv (.t 1)) 8,o1 12 (.mv (.t 0)) 9,o1 13 (.mv (.t 5)) 10,o1 14 (.iaddr 2 (.t 12) (.t 13)) 11,o1 15 (.load 2 .true (.t 14)) 12,o1 16 (.callv (.t 11) [.t 15]) 13]) (.cond (.t 16) (.seq (.reg 14 2 [o1 17 (.mv (.t 5)) 14,o1 4 (.mv (.t 17)) 15]) .ret) .skip)))) (.reg 16 2 [o1 18 (.bin .add (.t 8) (.k (.int .i64 1))) 16,o1 8 (.mv (.t 18)) 17]))))))) (.seq (.reg 18 1 [o1 4 (.mv (.k (.int .i64 (-1)))) 18]) .ret))
def rs192:List IRes:=[.tmp 4]
set_option maxRecDepth 100000 in
theorem comp192:CompAt Try.prog 192 1 ir192 rs192 19:=⟨⟨_,_,19,Try.func192,rfl,by kernel_rfl,by kernel_rfl,rfl⟩⟩
theorem body192:HasBody Try.prog 192:=hasBody_of (by kernel_rfl)

def ir193:IC :=
 .seq (.reg 1 1 [o1 3 (.mv (.k (.bool .false))) 1]) (.seq (.reg 2 5 [o1 4 (.load 1 .false (.t 1)) 2,o1 5 (.mv (.t 0)) 3,o1 6 (.callv (.t 4) [.t 5]) 4,o1 7 (.un .not (.t 6)) 5,o1 3 (.mv (.t 7)) 6]) .ret)
def rs193:List IRes:=[.tmp 3]
set_option maxRecDepth 100000 in
theorem comp193:CompAt Try.prog 193 1 ir193 rs193 8:=⟨⟨_,_,7,Try.func193,rfl,by kernel_rfl,by kernel_rfl,rfl⟩⟩
theorem body193:HasBody Try.prog 193:=hasBody_of (by kernel_rfl)

def ir27:IC :=
 .seq (.reg 0 1 [o1 4 (.mv (.k (.bool .false))) 0]) (.seq (.seq (.reg 1 1 [o1 5 (.mv (.k (.int .i64 0))) 1]) (.block 0 (.loop (.seq (.seq (.reg 2 4 [o1 7 (.mv (.t 5)) 2,o1 8 (.mv (.t 0)) 3,o1 9 (.len (.t 8)) 4,o1 10 (.bin .lss (.t 7) (.t 9)) 5]) (.cond (.t 10) .skip (.exit 0))) (.seq (.block 1 (.seq
 (.reg 6 7 [o1 13 (.mv (.t 0)) 6,o1 14 (.mv (.t 5)) 7,o1 15 (.iaddr 2 (.t 13) (.t 14)) 8,o1 16 (.faddr 0 (.t 15)) 9,o1 17 (.load 1 .false (.t 16)) 10,o1 18 (.len (.t 17)) 11,o1 19 (.bin .gtr (.t 18) (.k (.int .i64 15))) 12]) (.cond (.t 19) (.seq (.reg 13 1 [o1 4 (.mv (.k (.bool .false))) 13]) .ret) .skip))) (.reg 14 3 [o1 11 (.mv (.t 5)) 14,o1 12 (.bin .add (.t 11) (.k (.int .i64 1))) 15,o1 5 (.mv (.t 12)) 16])))))) (.seq (.seq (.reg 17 1 [o1 6 (.mv (.k (.int .i64 0))) 17]) (.block 2 (.loop (.seq (.seq (.reg 18 4 [o1 20 (.mv (.t 6)) 18,o1 21 (.mv (.t 1)) 19,o1 22 (.len (.t 21)) 20,o1 23 (.bin .lss (.t 20) (.t 22)) 21]) (.cond
 (.t 23) .skip (.exit 2))) (.seq (.block 3 (.seq (.reg 22 7 [o1 26 (.mv (.t 1)) 22,o1 27 (.mv (.t 6)) 23,o1 28 (.iaddr 2 (.t 26) (.t 27)) 24,o1 29 (.faddr 0 (.t 28)) 25,o1 30 (.load 1 .false (.t 29)) 26,o1 31 (.len (.t 30)) 27,o1 32 (.bin .gtr (.t 31) (.k (.int .i64 15))) 28]) (.cond (.t 32) (.seq (.reg 29 1 [o1 4 (.mv (.k (.bool .false))) 29]) .ret) .skip))) (.reg 30 3 [o1 24 (.mv (.t 6)) 30,o1 25 (.bin .add (.t 24) (.k (.int .i64 1))) 31,o1 6 (.mv (.t 25)) 32])))))) (.seq (.reg 33 9 [o1 33 (.mv (.t 0)) 33,o1 34 (.len (.t 33)) 34,o1 35 (.bin .leq (.t 34) (.k (.int .i64 22))) 35,o1 36 (.mv (.t 35)) 36, .mk (.some 37) (.mv (.t 1)) (.some (36, .true)) 37
 .none .false [] .false, .mk (.some 38) (.len (.t 37)) (.some (36, .true)) 38 .none .false [] .false, .mk (.some 39) (.bin .leq (.t 38) (.k (.int .i64 22))) (.some (36, .true)) 39
 .none .false [] .false,o1 40 (.pick (.t 36) (.t 39) (.k (.bool .false))) 40,o1 4 (.mv (.t 40)) 41])
 .ret)))
def rs27:List IRes:=[.tmp 4]
set_option maxRecDepth 100000 in
theorem comp27:Comp Try.prog 27 ir27 rs27 41:=⟨⟨_,_,42,Try.func27,rfl,by kernel_rfl,by kernel_rfl,rfl⟩⟩
theorem body27:HasBody Try.prog 27:=hasBody_of (by kernel_rfl)

def ir28:IC :=
 .seq (.reg 0 1 [o1 4 (.mv (.k (.int .i64 0))) 0]) (.seq (.seq (.reg 1 8 [o1 9 (.mv (.t 0)) 1,o1 10 (.len (.t 9)) 2,o1 11 (.bin .gtr (.t 10) (.k (.int .i64 20))) 3,o1 12 (.mv (.t 11)) 4, .mk (.some 13) (.mv (.t 1)) (.some (12, .false)) 5 .none .false [] .false, .mk (.some 14) (.len (.t 13)) (.some (12, .false)) 6 .none .false [] .false, .mk
 (.some 15) (.bin .gtr (.t 14) (.k (.int .i64 20))) (.some (12, .false)) 7 .none .false [] .false,o1 16 (.pick (.t 12) (.k (.bool .true)) (.t 15)) 8]) (.cond (.t 16) (.seq (.reg 9 1 [o1 4 (.mv (.k (.int .i64 3))) 9]) .ret) .skip)) (.seq (.reg 10 6 [o1 17 (.bsl 99 2 0 [] []) 10,o1 18 (.mv (.t 0)) 11,o1 19 (.app 99 2 32 (.t 17) (.t 18)) 12,o1 20 (.mv (.t 1)) 13,o1 21 (.app 99 2 32 (.t 19) (.t 20)) 14,o1 5 (.mv (.t 21)) 15]) (.seq (.seq (.reg 16 1 [o1 6 (.mv (.k (.int .i64 0))) 16]) (.block 0 (.loop (.seq (.seq (.reg 17 4 [o1 22 (.mv (.t 6)) 17,o1 23 (.mv (.t 5)) 18,o1 24 (.len (.t 23)) 19,o1 25 (.bin .lss (.t 22) (.t 24)) 20]) (.cond (.t 25) .skip (.exit 0))) (.seq (.block 1 (.seq (.reg 21 7 [o1 28 (.mv (.t 5)) 21,o1 29 (.mv (.t 6)) 22,o1 30 (.iaddr 2 (.t 28) (.t 29)) 23,o1 31 (.faddr 0 (.t 30)) 24,o1 32 (.load 1 .false (.t 31)) 25,o1 33 (.len (.t 32)) 26,o1 34 (.bin .gtr (.t 33) (.k (.int .i64 12))) 27]) (.cond (.t 34) (.seq (.reg 28 1 [o1 4 (.mv (.k (.int .i64 3))) 28]) .ret) .skip))) (.reg 29 3 [o1 26 (.mv (.t 6)) 29,o1 27 (.bin .add (.t 26) (.k (.int .i64 1))) 30,o1 6 (.mv (.t 27)) 31])))))) (.seq (.seq (.reg 32 1 [o1 7 (.mv (.k (.int .i64 0))) 32]) (.block
 2 (.loop (.seq (.seq (.reg 33 4 [o1 35 (.mv (.t 7)) 33,o1 36 (.mv (.t 5)) 34,o1 37 (.len (.t 36)) 35,o1 38 (.bin .lss (.t 35) (.t 37)) 36]) (.cond (.t 38) .skip (.exit 2))) (.seq (.block 3 (.seq (.seq
 (.reg 37 1 [o1 8 (.mv (.k (.int .i64 0))) 37]) (.block 4 (.loop (.seq (.seq (.reg 38 8 [o1 41 (.mv (.t 8)) 38,o1 42 (.mv (.t 5)) 39,o1 43 (.mv (.t 7)) 40,o1 44 (.iaddr 2 (.t 42) (.t 43)) 41,o1 45 (.faddr 0 (.t 44)) 42,o1 46 (.load 1 .false (.t 45)) 43,o1 47 (.len (.t 46)) 44,o1 48 (.bin .lss (.t 41) (.t 47)) 45]) (.cond (.t 48) .skip (.exit 4))) (.seq (.block 5
 (.seq (.reg 46 10 [o1 51 (.mv (.t 5)) 46,o1 52 (.mv (.t 7)) 47,o1 53 (.iaddr 2 (.t 51) (.t 52)) 48,o1 54 (.faddr 0 (.t 53)) 49,o1 55 (.load 1 .false (.t 54)) 50,
 o1 56 (.mv (.t 8)) 51,o1 57 (.iaddr 1 (.t 55) (.t 56)) 52,o1 58 (.load 1 .false (.t 57)) 53,o1 59 (.call 56 [.t 58, .k (.int .i64 0), .k (.int .i64 999)]) 54,o1 60 (.un .not (.t 59)) 55]) (.cond (.t 60) (.seq (.reg 56 1 [o1 4 (.mv (.k (.int .i64 1))) 56]) .ret) .skip))) (.reg 57 3 [o1 49 (.mv (.t 8)) 57,o1 50 (.bin .add (.t 49) (.k (.int .i64 1))) 58,o1 8 (.mv (.t 50)) 59])))))) (.seq (.reg 60 16 [o1 61 (.mv (.t 5)) 60,o1 62 (.mv (.t 7)) 61,o1 63 (.iaddr 2 (.t 61) (.t 62)) 62,o1 64 (.faddr 0 (.t 63)) 63,o1 65 (.load 1 .false (.t 64)) 64,o1 66 (.call 57 [.t 65]) 65,o1 67 (.un .not (.t 66)) 66,o1 68 (.mv (.t 67)) 67, .mk (.some 69) (.mv (.t 5)) (.some (68, .false)) 68 .none .false [] .false, .mk (.some 70) (.mv (.t 7)) (.some (68, .false)) 69 .none
 .false [] .false, .mk (.some 71) (.iaddr 2 (.t 69) (.t 70)) (.some (68, .false)) 70 .none .false [] .false, .mk (.some 72) (.faddr 1 (.t 71)) (.some (68, .false)) 71 .none .false
 [] .false, .mk (.some 73) (.load 1 .false (.t 72)) (.some (68, .false)) 72 .none .false [] .false, .mk (.some 74) (.call 56 [.t 73, .k (.int .i64 1), .k (.int .i64 200)]) (.some
 (68, .false)) 73 .none .false [] .false, .mk (.some 75) (.un .not (.t 74)) (.some (68, .false)) 74 .none .false [] .false,o1 76 (.pick (.t 68) (.k (.bool .true)) (.t 75)) 75]) (.cond (.t 76) (.seq (.reg 76 1 [o1 4 (.mv (.k (.int .i64 1))) 76]) .ret) .skip)))) (.reg 77 3 [o1 39 (.mv (.t 7)) 77,o1 40 (.bin .add (.t 39) (.k (.int .i64 1))) 78,o1 7 (.mv (.t 40)) 79])))))) (.seq (.reg 80 1 [o1 4 (.mv (.k (.int .i64 0))) 80]) .ret)))))
def rs28:List IRes:=[.tmp 4]
set_option maxRecDepth 100000 in
theorem comp28:Comp Try.prog 28 ir28 rs28 77:=⟨⟨_,_,81,Try.func28,rfl,by kernel_rfl,by kernel_rfl,rfl⟩⟩
theorem body28:HasBody Try.prog 28:=hasBody_of (by kernel_rfl)

def ir31:IC :=
 .seq (.reg 0 1 [o1 2 (.mv (.k (.slice .none 0 0))) 0]) (.seq (.reg 1 1 [o1 3 (.mv (.k (.slice .none 0 0))) 1]) (.seq (.seq (.reg 2 1 [o1 4 (.mv (.k (.int .i64 0))) 2]) (.block 0 (.loop (.seq (.seq (.reg 3 4 [o1 5 (.mv (.t 4)) 3,o1 6 (.mv (.t 0)) 4,o1 7 (.len (.t 6)) 5,o1 8 (.bin .lss (.t 5) (.t 7)) 6]) (.cond (.t 8) .skip (.exit 0))) (.seq (.block 1 (.draw 7 16 [] [] [o3 11 (.mv (.t 3)) 7,o3 12 (.mv (.t 0)) 8,o3 13 (.mv (.t 4)) 9,o3 14 (.iaddr 2 (.t 12) (.t 13)) 10,o3 15 (.faddr 0 (.t 14)) 11,o3 16 (.load 1 .false (.t 15)) 12,o3 17 (.call 61 [.t 16]) 13,o3 18 (.mv (.t 0)) 14,o3 19 (.mv (.t 4)) 15,o3 20 (.iaddr 2 (.t 18) (.t 19)) 16,o3 21 (.faddr 1 (.t 20)) 17,o3 22 (.load 1 .false (.t 21)) 18, .mk (.some 23) (.bld [(0,1),(1,1)] [.slice .none 0 0, .int .i64 0] [(0, .t 17),(1, .t 22)]) .none 19 (.some [13]) .true
 [] .false, .mk (.some 24) (.bsl 177 2 1 [.slice .none 0 0, .int .i64 0] [(0, .t 23)]) .none 20 (.some [13]) .true [] .false, .mk (.some 25) (.app 177 2 32 (.t 11) (.t 24)) .none
 21 (.some [13,20]) .false [] .false, .mk (.some 3) (.mv (.t 25)) .none 22 (.some [20,13,21]) .true [] .false])) (.reg 23 3 [o1 9 (.mv (.t 4)) 23,o1 10 (.bin .add (.t 9) (.k (.int .i64 1))) 24,o1 4 (.mv (.t 10)) 25])))))) (.seq (.reg 26 2
 [o1 26 (.mv (.t 3)) 26,o1 2 (.mv (.t 26)) 27]) .ret)))
def rs31:List IRes:=[.tmp 2]
set_option maxRecDepth 100000 in
theorem comp31:Comp Try.prog 31 ir31 rs31 27:=⟨⟨_,_,28,Try.func31,rfl,by kernel_rfl,by kernel_rfl,rfl⟩⟩
theorem body31:HasBody Try.prog 31:=hasBody_of (by kernel_rfl)

def ir56:IC :=
 .seq (.reg 0 1 [o1 6 (.mv (.k (.bool .false))) 0]) (.seq (.reg 1 9 [o1 7 (.mv (.t 0)) 1,o1 8 (.mv (.t 1)) 2,o1 9 (.bin .geq (.t 7) (.t 8)) 3,o1 10 (.mv (.t 9)) 4,
 .mk (.some 11) (.mv (.t 0)) (.some (10, .true)) 5 .none .false [] .false, .mk (.some 12) (.mv (.t 2)) (.some (10, .true)) 6 .none .false [] .false, .mk (.some 13) (.bin .leq (.t
 11) (.t 12)) (.some (10, .true)) 7 .none .false [] .false,o1 14 (.pick (.t 10) (.t 13) (.k (.bool .false))) 8,o1 6 (.mv (.t 14)) 9]) .ret)
def rs56:List IRes:=[.tmp 6]
set_option maxRecDepth 100000 in
theorem comp56:Comp Try.prog 56 ir56 rs56 15:=⟨⟨_,_,10,Try.func56,rfl,by kernel_rfl,by kernel_rfl,rfl⟩⟩
theorem body56:HasBody Try.prog 56:=hasBody_of (by kernel_rfl)

def ir57:IC :=
 .seq (.reg 0 1 [o1 2 (.mv (.k (.bool .false))) 0]) (.seq (.seq (.reg 1 1 [o1 3 (.mv (.k (.int .i64 1))) 1]) (.block 0 (.loop (.seq (.seq (.reg 2 4 [o1 4 (.mv (.t 3)) 2,o1 5 (.mv (.t 0)) 3,o1 6 (.len (.t 5)) 4,o1 7 (.bin .lss (.t 4) (.t 6)) 5]) (.cond (.t 7) .skip (.exit 0))) (.seq (.block 1 (.seq
 (.draw 6 10 [] [] [o3 10 (.mv (.t 0)) 6,o3 11 (.mv (.t 3)) 7,o3 12 (.iaddr 1 (.t 10) (.t 11)) 8,o3 13 (.load 1 .false (.t 12)) 9,o3 14 (.mv (.t 0)) 10,o3 15 (.mv (.t 3)) 11,o3 16 (.bin .sub (.t 15) (.k (.int .i64 1))) 12,o3 17 (.iaddr 1 (.t 14) (.t 16)) 13,o3 18 (.load 1 .false (.t 17)) 14,o3 19 (.bin .leq (.t 13) (.t 18)) 15]) (.cond (.t 19) (.seq (.reg 16 1 [o1 2 (.mv (.k (.bool .false))) 16]) .ret) .skip))) (.reg 17 3
 [o1 8 (.mv (.t 3)) 17,o1 9 (.bin .add (.t 8) (.k (.int .i64 1))) 18,o1 3 (.mv (.t 9)) 19])))))) (.seq (.reg 20 1 [o1 2 (.mv (.k (.bool .true))) 20]) .ret))
def rs57:List IRes:=[.tmp 2]
set_option maxRecDepth 100000 in
theorem comp57:Comp Try.prog 57 ir57 rs57 20:=⟨⟨_,_,21,Try.func57,rfl,by kernel_rfl,by kernel_rfl,rfl⟩⟩
theorem body57:HasBody Try.prog 57:=hasBody_of (by kernel_rfl)

def ir61:IC :=
 .seq (.reg 0 1 [o1 2 (.mv (.k (.slice .none 0 0))) 0]) (.seq (.reg 1 4 [o1 3 (.bsl 3 1 0 [] []) 1,o1 4 (.mv (.t 0)) 2,o1 5 (.app 3 1 8 (.t 3) (.t 4)) 3,o1 2 (.mv (.t 5)) 4]) .ret)
def rs61:List IRes:=[.tmp 2]
set_option maxRecDepth 100000 in
theorem comp61:Comp Try.prog 61 ir61 rs61 6:=⟨⟨_,_,5,Try.func61,rfl,by kernel_rfl,by kernel_rfl,rfl⟩⟩
theorem body61:HasBody Try.prog 61:=hasBody_of (by kernel_rfl)

def ir29:IC :=
 .seq (.reg 0 1 [o1 0 (.mv (.k (.bool .false))) 0]) (.seq (.reg 1 11 [.mk (.some 4) (.bld [(0,1),(1,1)] [.int .i64 0, .string (ByteArray.mk
 (Array.mk []))] [(0, .k (.int .i64 4)),(1, .k (.string (ByteArray.mk (Array.mk [80,114,97,121,101,114,115,46]))))]) .none 1 .none .false [] .false, .mk (.some 5) (.bsl 101
 2 1 [.int .i64 0, .string (ByteArray.mk (Array.mk []))] [(0, .t 4)]) .none 2 .none .false [] .false,o1 6 (.bld [(0,1),(1,1)] [.int .i64 0, .slice .none 0 0] [(1, .t 5)]) 3,o1 7 (.bsl 93 2 1 [.int .i64 0, .slice .none 0 0] [(0, .t 6)]) 4,o1 8 (.bld [(0,1),(1,1),(2,1),(3,1),(4,1)] [.int .i64 0, .int .i64 0, .int .i64 0, .int .i64 0, .slice .none 0 0] [(0, .k (.int .i64 1)),(2, .k (.int .i64 2)),(3, .k (.int .i64 10)),(4, .t 7)]) 5,o1 9 (.call 32 [.t 8, .k (.slice .none 0 0)]) 6,o1 3 (.mv (.t 9)) 7,
 o1 10 (.ext (.t 3) 0) 8,o1 11 (.ext (.t 3) 1) 9,o1 1 (.mv (.t 10)) 10,o1 2 (.mv (.t 11)) 11]) (.seq (.reg 12 15 [o1 12 (.mv (.t 2)) 12,o1 13 (.bin .eql (.t 12) (.k (.int .i64 0))) 13,o1 14 (.mv (.t 13)) 14, .mk (.some 15) (.mv (.t 1)) (.some (14, .true)) 15 .none
 .false [] .false, .mk (.some 16) (.len (.t 15)) (.some (14, .true)) 16 .none .false [] .false, .mk (.some 17) (.bin .eql (.t 16) (.k (.int .i64 1))) (.some (14, .true)) 17 .none
 .false [] .false,o1 18 (.pick (.t 14) (.t 17) (.k (.bool .false))) 18,o1 19 (.mv (.t 18)) 19, .mk
 (.some 20) (.mv (.t 1)) (.some (19, .true)) 20 .none .false [] .false, .mk (.some 21) (.iaddr 4 (.t 20) (.k (.int .i64 0))) (.some (19, .true)) 21 .none .false [] .false, .mk
 (.some 22) (.load 4 .true (.t 21)) (.some (19, .true)) 22 .none .false [] .false, .mk (.some 23) (.bld [(0,1),(1,1),(2,1),(3,1)] [.int .i64 0, .int .i64 0, .int .i64 0,
 .int .i64 0] [(0, .k (.int .i64 4)),(1, .k (.int .i64 1)),(2, .k (.int .i64 1)),(3, .k (.int .i64 1))]) (.some (19, .true)) 23 .none .false [] .false, .mk (.some 24) (.pur
 (.bin .eql 112) [.t 22, .t 23]) (.some (19, .true)) 24 .none .false [] .false,o1 25 (.pick (.t 19) (.t 24) (.k (.bool .false))) 25,o1 0 (.mv (.t 25)) 26]) .ret))
def rs29:List IRes:=[.tmp 0]
set_option maxRecDepth 100000 in
theorem comp29:Comp Try.prog 29 ir29 rs29 26:=⟨⟨_,_,27,Try.func29,rfl,by kernel_rfl,by kernel_rfl,rfl⟩⟩
theorem body29:HasBody Try.prog 29:=hasBody_of (by kernel_rfl)

end Go.Proofs.Ytefnikpoimaiiaa

namespace Go.Proofs.Ytefnikpoimaiiaa
open Go.Pal
def ir32:IC :=
 .seq (.reg 0 3 [o1 2 (.box 96 (.t 0)) 0,o1 4 (.mv (.k (.slice .none 0 0))) 1,o1 5 (.mv (.k (.int .i64 0))) 2]) (.seq (.seq (.reg 3 4 [o1 10 (.load 5 .true (.t 2)) 3,o1 11 (.mv (.t 1)) 4,o1 12 (.call 62 [.t 10, .t 11]) 5,o1 6 (.mv (.t 12)) 6]) (.seq (.reg 7 2 [o1 13 (.mv (.t 6)) 7,o1 14 (.bin .neq (.t 13) (.k (.int .i64 0))) 8]) (.cond (.t 14) (.seq (.reg 9 3 [o1 15 (.mv (.t 6)) 9,o1 4 (.mv (.k (.slice .none 0 0))) 10,o1 5 (.mv (.t 15)) 11]) .ret) .skip))) (.seq (.reg 12 1 [o1 7 (.mv (.k (.slice .none 0 0))) 12]) (.seq (.seq (.reg 13 5 [o1 16 (.load 5 .true (.t 2)) 13,o1 17 (.mv (.t 1)) 14,o1 18 (.call 63 [.t 16, .t 17]) 15,o1 19 (.len (.t 18)) 16,o1 20 (.mv (.k (.int .i64 0))) 17]) (.block 0 (.loop (.seq (.reg 18 1
 [o1 21 (.bin .lss (.t 20) (.t 19)) 18]) (.seq (.cond (.t 21) .skip (.exit 0)) (.seq (.block 1 (.seq (.reg 19 4 [o1 22 (.iaddr 6 (.t 18) (.t 20)) 19,o1 23 (.load 6 .true (.t 22)) 20,o1 9 (.alloc 183 [.int .i64 0, .int .i64 0, .int .i64 0, .int .i64 0, .int .i64 0, .int .i64 0]) 21,o2 (.store 6 (.t 9) (.t 23)) 22]) (.reg 23 6 [o1 24 (.mv (.t 7)) 23,o1 25 (.faddr 0 (.t 9)) 24,o1 26 (.load 4 .true (.t 25)) 25,o1 27 (.bsl 112 4 1 [.int .i64 0, .int .i64 0, .int .i64 0, .int .i64 0] [(0, .t 26)]) 26,o1 28 (.app 112 4 32 (.t 24) (.t 27)) 27,o1 7 (.mv (.t 28)) 28]))) (.reg 29 2 [o1 29 (.bin .add (.t 20) (.k (.int .i64 1))) 29,o1 20 (.mv (.t 29)) 30]))))))) (.seq (.reg 31 3 [o1 30 (.mv (.t 7)) 31,o1 4 (.mv (.t 30)) 32,o1 5 (.mv (.k (.int .i64 0))) 33]) .ret))))
def rs32:List IRes:=[.tmp 4, .tmp 5]
set_option maxRecDepth 100000 in
theorem comp32:Comp Try.prog 32 ir32 rs32 31:=⟨⟨_,_,34,Try.func32,rfl,by kernel_rfl,by kernel_rfl,rfl⟩⟩
theorem body32:HasBody Try.prog 32:=hasBody_of (by kernel_rfl)

def ir62:IC :=
 .seq (.reg 0 2 [o1 2 (.box 96 (.t 0)) 0,o1 4 (.mv (.k (.int .i64 0))) 1]) (.seq (.seq (.reg 2 3 [o1 12 (.load 5 .true (.t 2)) 2,o1 13 (.call 91 [.t 12]) 3,o1 5 (.mv (.t 13)) 4]) (.seq (.reg 5 2 [o1 14 (.mv (.t 5)) 5,o1 15 (.bin .neq (.t 14) (.k (.int .i64 0))) 6]) (.cond (.t 15) (.seq (.reg 7 2 [o1 16 (.mv (.t 5)) 7,o1 4 (.mv (.t 16)) 8]) .ret) .skip)))
 (.seq (.block 0 (.seq (.reg 9 4 [o1 18 (.mv (.t 1)) 9,o1 19 (.len (.t 18)) 10,o1 20 (.bin .gtr (.t 19) (.k (.int .i64 20))) 11,o1 17 (.mv (.t 20)) 12]) (.cond (.t 17) (.seq (.reg 13 1 [o1 4 (.mv (.k (.int .i64 3))) 13]) .ret) (.seq (.reg 14 4 [o1 22 (.mv (.t 1)) 14,o1 23 (.call 92 [.t 22, .f 93]) 15,o1 24 (.un .not (.t 23)) 16,o1 21 (.mv (.t 24)) 17]) (.cond (.t
 21) (.seq (.reg 18 1 [o1 4 (.mv (.k (.int .i64 1))) 18]) .ret) .skip))))) (.seq (.reg 19 4 [o1 25 .mkm 19,o1 26 .mkm 20,o1 6 (.mv (.t 25)) 21,o1 7 (.mv (.t 26)) 22]) (.seq (.seq (.reg 23 4 [o1 27 (.load 5 .true (.t 2)) 23,o1 28 (.call 94 [.t 27]) 24,o1 29 (.len (.t 28)) 25,o1 30 (.mv (.k (.int .i64 0))) 26]) (.block 1 (.loop (.seq (.reg 27 1 [o1 31 (.bin .lss (.t 30) (.t 29)) 27]) (.seq (.cond (.t 31) .skip (.exit 1)) (.seq (.block 2 (.seq (.reg 28 4 [o1 32 (.iaddr 2 (.t 28) (.t 30)) 28,o1 33 (.load 2 .true (.t 32)) 29, .mk (.some 9) (.alloc 101 [.int .i64 0, .string (ByteArray.mk (Array.mk
 []))]) .none 30 .none .false [] .false,o2 (.store 2 (.t 9) (.t 33)) 31]) (.reg 32 4 [o1 34 (.mv (.t 6)) 32,o1 35 (.faddr 0 (.t 9)) 33,o1 36 (.load 1 .false (.t 35)) 34,o2 (.mup 3 (.t 34) (.t 36) (.k (.bool .true))) 35]))) (.reg 36 2 [o1 37 (.bin .add (.t 30) (.k (.int .i64 1))) 36,o1 30 (.mv (.t 37)) 37]))))))) (.seq (.seq (.reg 38 3 [o1 38 (.mv (.t 1)) 38,o1 39 (.len (.t 38)) 39,o1 40 (.mv (.k (.int .i64 0))) 40]) (.block 3 (.loop (.seq (.reg 41 1 [o1 41 (.bin .lss (.t 40) (.t 39)) 41]) (.seq (.cond (.t 41) .skip (.exit 3)) (.seq (.block 4 (.seq (.reg 42 4 [o1 42 (.iaddr 6 (.t 38) (.t 40)) 42,o1 43 (.load 6 .true (.t 42)) 43, .mk (.some 11) (.alloc 213 [.int .i64 0, .int .i64 0, .int .u8 0, .int .i64 0, .string (ByteArray.mk (Array.mk
 [])), .int .i64 0]) .none 44 .none .false [] .false,o2 (.store 6 (.t 11) (.t 43)) 45]) (.seq (.seq (.reg 46 15 [o1 44 (.mv (.t 7)) 46,o1 45 (.faddr 0 (.t 11)) 47,o1 46 (.load 1 .false (.t 45)) 48,o1 47 (.lkp 3 (.bool .false) .false (.t 44) (.t 46)) 49,o1 48 (.mv (.t 47)) 50, .mk (.some 49) (.faddr 2
 (.t 11)) (.some (48, .false)) 51 .none .false [] .false, .mk (.some 50) (.load 1 .false (.t 49)) (.some (48, .false)) 52 .none .false [] .false, .mk (.some 51) (.bin .eql (.t 50)
 (.k (.int .u8 2))) (.some (48, .false)) 53 .none .false [] .false, .mk (.some 52) (.mv (.t 51)) (.some (48, .false)) 54 .none .false [] .false, .mk (.some 53) (.mv (.t 6)) (.some
 (52, .true)) 55 .none .false [] .false, .mk (.some 54) (.faddr 5 (.t 11)) (.some (52, .true)) 56 .none .false [] .false, .mk (.some 55) (.load 1 .false (.t 54)) (.some (52,
 .true)) 57 .none .false [] .false, .mk (.some 56) (.lkp 3 (.bool .false) .false (.t 53) (.t 55)) (.some (52, .true)) 58 .none .false [] .false, .mk (.some 57) (.pick (.t 52) (.t
 56) (.k (.bool .false))) (.some (48, .false)) 59 .none .false [] .false,o1 58 (.pick (.t 48) (.k (.bool .true)) (.t 57)) 60]) (.cond (.t 58)
 (.seq (.reg 61 1 [o1 4 (.mv (.k (.int .i64 6))) 61]) .ret) .skip)) (.seq (.reg 62 4 [o1 59 (.mv (.t 7)) 62,o1 60 (.faddr 0 (.t 11)) 63,o1 61 (.load 1 .false (.t 60)) 64,o2 (.mup 3 (.t 59) (.t 61) (.k (.bool .true))) 65]) (.seq (.reg 66 3 [o1 62 (.faddr 2 (.t 11)) 66,o1 63 (.load 1 .false (.t 62)) 67,o1 64 (.bin .eql (.t 63) (.k (.int .u8 2))) 68]) (.cond (.t 64) (.reg 69 4 [o1 65 (.mv (.t 6)) 69,o1 66 (.faddr 5 (.t 11)) 70,o1 67 (.load 1 .false (.t 66)) 71,o2 (.mup 3 (.t 65) (.t 67) (.k (.bool .true))) 72]) .skip)))))) (.reg 73 2 [o1 68 (.bin .add (.t 40) (.k (.int .i64 1))) 73,o1 40 (.mv (.t 68)) 74]))))))) (.seq (.reg 75 4 [o1 69 (.load 5 .true (.t 2)) 75,o1 70 (.mv (.t 1)) 76,o1 71 (.call 95 [.t 69, .t 70]) 77,o1 4 (.mv (.t 71)) 78]) .ret))))))
def rs62:List IRes:=[.tmp 4]
set_option maxRecDepth 100000 in
theorem comp62:Comp Try.prog 62 ir62 rs62 72:=⟨⟨_,_,79,Try.func62,rfl,by kernel_rfl,by kernel_rfl,rfl⟩⟩
theorem body62:HasBody Try.prog 62:=hasBody_of (by kernel_rfl)

def ir63:IC :=
 .seq (.reg 0 2 [o1 2 (.box 96 (.t 0)) 0,o1 4 (.mv (.k (.slice .none 0 0))) 1]) (.seq (.reg 2 6 [o1 14 (.load 5 .true (.t 2)) 2,o1 15 (.mv (.t 1)) 3,o1 16 (.faddr 1 (.t 2)) 4,o1 17 (.load 1 .false (.t 16)) 5,o1 18 (.call 96 [.t 14, .t 15, .t 17]) 6,o1 5 (.mv (.t 18)) 7]) (.seq (.reg 8 1 [o1 6 (.mv (.k (.int .i64 1))) 8]) (.seq (.seq (.reg 9 6 [o1 19 (.mv (.t 5)) 9,o1 20 (.nilc (.t 19)) 10,o1 21 (.faddr 5 (.t 20)) 11,o1 22 (.load 1 .false (.t 21)) 12,o1 23 (.len (.t 22)) 13,o1 24 (.mv (.k (.int .i64 0))) 14]) (.block 0 (.loop (.seq (.reg 15 1 [o1 25 (.bin .lss (.t 24) (.t 23)) 15]) (.seq (.cond (.t 25) .skip (.exit 0))
 (.seq (.block 1 (.seq (.reg 16 5 [o1 26 (.mv (.t 24)) 16,o1 27 (.iaddr 1 (.t 22) (.t 24)) 17,o1 28 (.load 1 .false (.t 27)) 18,o1 7 (.mv (.t 26)) 19,o1 8 (.mv (.t 28)) 20]) (.seq (.reg 21 2 [o1 9 (.mv (.k (.int .i64 0))) 21,o1 10 (.mv (.k (.int .i64 0))) 22])
 (.seq (.seq (.reg 23 3 [o1 29 (.mv (.t 8)) 23,o1 30 (.len (.t 29)) 24,o1 31 (.mv (.k (.int .i64 0))) 25]) (.block 2 (.loop (.seq (.reg 26 1 [o1 32 (.bin .lss (.t 31) (.t 30)) 26]) (.seq (.cond (.t 32)
 .skip (.exit 2)) (.seq (.block 3 (.seq (.reg 27 4 [o1 33 (.iaddr 3 (.t 29) (.t 31)) 27,o1 34 (.load 3 .true (.t 33)) 28, .mk (.some 12) (.alloc 225 [.int .i64 0, .string (ByteArray.mk (Array.mk [])), .bool .false]) .none 29 .none .false [] .false,o2 (.store 3 (.t 12) (.t 34)) 30]) (.seq (.seq (.reg 31 2 [o1 35 (.faddr 2 (.t 12)) 31,o1 36 (.load 1 .false (.t 35)) 32]) (.cond (.t 36) (.exit 3) .skip)) (.seq (.reg 33 3 [o1 37 (.mv (.t 10)) 33,o1 38 (.bin .add (.t 37) (.k (.int .i64 1))) 34,o1 10 (.mv (.t 38)) 35]) (.seq (.reg 36 12 [o1 39 (.faddr 0 (.t 12)) 36,o1 40 (.faddr 1 (.t 39)) 37,o1 41 (.load 1 .false (.t 40)) 38,o1 42 (.lenS (.t 41)) 39,o1 43 (.faddr 3 (.t 2)) 40,o1 44 (.load 1 .false (.t 43)) 41,o1 45 (.bin .add (.t 42) (.t 44)) 42,o1 46 (.bin .sub (.t 45) (.k (.int .i64 1))) 43,o1 47 (.faddr 3 (.t 2)) 44,o1 48 (.load 1 .false (.t 47)) 45,o1 49 (.bin .quo (.t 46) (.t 48)) 46,o1 13 (.mv (.t 49)) 47]) (.seq (.draw 48 28 [] [] [o3 50 (.mv (.t 4)) 48,o3 51 (.faddr 0 (.t 12)) 49,o3 52 (.faddr 0 (.t 51)) 50,o3 53 (.load 1 .false (.t 52)) 51,o3 54 (.mv (.t 6)) 52,o3 55 (.mv (.t 9)) 53,o3 56 (.faddr 2 (.t 2)) 54,o3 57 (.load 1 .false (.t 56)) 55,o3 58 (.bin .quo (.t 55) (.t 57)) 56,o3 59 (.bin .add (.t 54) (.t 58)) 57,o3 60 (.mv (.t 9)) 58,o3 61 (.faddr 2 (.t 2)) 59,o3 62 (.load 1 .false (.t 61)) 60,o3 63 (.bin .rem (.t 60) (.t 62)) 61,o3 64 (.bin .add (.t 63) (.k (.int .i64 1))) 62,o3 65 (.mv (.t 13)) 63,o3 66 (.bld [(0,1),(1,1),(2,1),(3,1)] [.int .i64 0, .int .i64 0, .int .i64 0, .int .i64 0] [(0, .t 53),(1, .t 59),(2, .t 64),(3, .t 65)]) 64,o3 67 (.faddr 4 (.t 2)) 65,o3 68 (.load 1 .false (.t 67)) 66,o3 69 (.mv (.t 7)) 67,o3 70 (.iaddr 2 (.t 68) (.t 69)) 68,o3 71 (.faddr 0 (.t 70)) 69,o3 72 (.load 1 .false (.t 71)) 70,o3 73 (.mv (.t 10)) 71,o3 74 (.bld [(0,4),(4,1),(5,1)] [.int .i64 0, .int .i64 0, .int .i64 0, .int .i64 0, .int .i64 0, .int .i64 0] [(0, .t 66),(1, .t 72),(2, .t 73)]) 72,o3 75 (.bsl 183 6 1 [.int .i64 0, .int .i64 0, .int .i64 0, .int .i64 0, .int .i64 0, .int .i64 0] [(0, .t 74)]) 73, .mk (.some 76) (.app 183 6 48 (.t 50) (.t 75)) .none 74 (.some [73]) .true [] .false, .mk (.some 4) (.mv (.t 76)) .none 75 (.some [73,
 74]) .true [] .false]) (.reg 76 4 [o1 77 (.mv (.t 9)) 76,o1 78 (.mv (.t 13)) 77,o1 79 (.bin .add (.t 77) (.t 78)) 78,o1 9 (.mv (.t 79)) 79]))))))) (.reg 80 2 [o1 80 (.bin .add (.t 31) (.k (.int .i64 1))) 80,o1 31 (.mv (.t 80)) 81]))))))) (.reg 82 11 [o1 81 (.mv (.t 6)) 82,o1 82 (.mv (.t 9)) 83,o1 83 (.faddr 2 (.t 2)) 84,o1 84 (.load 1 .false (.t 83)) 85,o1 85 (.bin .add (.t 82) (.t 84)) 86,o1 86 (.bin .sub (.t 85) (.k (.int .i64 1))) 87,o1 87 (.faddr 2 (.t 2)) 88,o1 88 (.load 1 .false (.t 87)) 89,o1 89 (.bin .quo (.t 86) (.t 88)) 90,o1 90 (.bin .add (.t 81) (.t 89)) 91,o1 6 (.mv (.t 90)) 92]))))) (.reg 93 2 [o1 91 (.bin .add (.t 24) (.k (.int .i64 1))) 93,o1 24 (.mv (.t 91)) 94]))))))) (.seq (.reg 95 2 [o1 92 (.mv (.t 4)) 95,o1 4 (.mv (.t 92)) 96]) .ret))))
def rs63:List IRes:=[.tmp 4]
set_option maxRecDepth 100000 in
theorem comp63:Comp Try.prog 63 ir63 rs63 93:=⟨⟨_,_,97,Try.func63,rfl,by kernel_rfl,by kernel_rfl,rfl⟩⟩
theorem body63:HasBody Try.prog 63:=hasBody_of (by kernel_rfl)

def ir91:IC :=
 .seq (.reg 0 2 [o1 1 (.box 96 (.t 0)) 0,o1 2 (.mv (.k (.int .i64 0))) 1]) (.seq (.reg 2 3 [o1 7 (.load 5 .true (.t 1)) 2,o1 8 (.call 94 [.t 7]) 3,o1 3 (.mv (.t 8)) 4])
 (.seq (.block 0 (.seq (.reg 5 10 [o1 10 (.faddr 4 (.t 1)) 5,o1 11 (.load 1 .false (.t 10)) 6,o1 12 (.len (.t 11)) 7,o1 13 (.bin .gtr (.t 12) (.k (.int .i64 6))) 8,o1 14 (.mv (.t 13)) 9, .mk (.some 15) (.mv (.t 3)) (.some (14, .false)) 10 .none .false [] .false, .mk (.some 16) (.len (.t 15)) (.some (14, .false)) 11 .none .false [] .false,
 .mk (.some 17) (.bin .gtr (.t 16) (.k (.int .i64 30))) (.some (14, .false)) 12 .none .false [] .false,o1 18 (.pick (.t 14) (.k (.bool .true)) (.t 17)) 13,o1 9 (.mv (.t 18)) 14]) (.cond (.t 9) (.seq (.reg 15 1 [o1 2 (.mv (.k (.int .i64 3))) 15]) .ret) (.seq (.reg 16 4 [o1 20 (.load 5 .true (.t 1)) 16,o1 21 (.call 132 [.t 20]) 17,o1 22 (.un .not (.t 21)) 18,o1 19 (.mv (.t 22)) 19]) (.cond (.t 19) (.seq (.reg 20 1 [o1 2 (.mv (.k (.int .i64 1))) 20]) .ret) .skip))))) (.seq (.reg 21 2 [o1 23 .mkm 21,o1 4 (.mv (.t 23)) 22]) (.seq (.seq (.reg 23 3 [o1 24 (.mv (.t 3)) 23,o1 25 (.len (.t 24)) 24,o1 26 (.mv (.k (.int .i64 0))) 25]) (.block 1 (.loop (.seq (.reg 26 1 [o1 27 (.bin .lss (.t 26) (.t 25)) 26]) (.seq (.cond (.t 27) .skip (.exit 1)) (.seq (.block 2 (.seq (.reg 27 4 [o1 28 (.iaddr 2 (.t 24) (.t 26)) 27,o1 29 (.load 2 .true (.t 28)) 28, .mk (.some 6) (.alloc 101 [.int .i64 0, .string (ByteArray.mk (Array.mk []))]) .none 29 .none .false [] .false,o2 (.store 2 (.t 6) (.t 29)) 30]) (.seq (.seq (.reg 31 4 [o1 30 (.mv (.t 4)) 31,o1 31 (.faddr 0 (.t 6)) 32,o1 32 (.load 1 .false (.t 31)) 33,o1 33 (.lkp 3 (.bool .false) .false (.t 30) (.t 32)) 34]) (.cond (.t 33) (.seq (.reg 35 1 [o1 2 (.mv (.k (.int .i64 6))) 35]) .ret) .skip)) (.reg 36 4 [o1 34 (.mv (.t 4)) 36,o1 35 (.faddr 0 (.t 6)) 37,o1 36 (.load 1 .false (.t 35)) 38,o2 (.mup 3 (.t 34) (.t 36) (.k (.bool .true))) 39])))) (.reg 40 2 [o1 37 (.bin .add (.t 26) (.k (.int .i64 1))) 40,o1 26 (.mv (.t 37)) 41]))))))) (.seq (.reg 42 1 [o1 2 (.mv (.k (.int .i64 0))) 42]) .ret)))))
def rs91:List IRes:=[.tmp 2]
set_option maxRecDepth 100000 in
theorem comp91:Comp Try.prog 91 ir91 rs91 38:=⟨⟨_,_,43,Try.func91,rfl,by kernel_rfl,by kernel_rfl,rfl⟩⟩
theorem body91:HasBody Try.prog 91:=hasBody_of (by kernel_rfl)

def ir92:IC :=
 .seq (.reg 0 2 [o1 3 (.box 214 (.t 1)) 0,o1 4 (.mv (.k (.bool .false))) 1]) (.seq (.reg 2 5 [o1 5 (.mv (.t 0)) 2,o1 6 (.mkf 134 [] [.t 3]) 3,o1 7 (.call 133 [.t 5, .t 6]) 4,o1 8 (.un .not (.t 7)) 5,o1 4 (.mv (.t 8)) 6]) .ret)
def rs92:List IRes:=[.tmp 4]
set_option maxRecDepth 100000 in
theorem comp92:Comp Try.prog 92 ir92 rs92 9:=⟨⟨_,_,7,Try.func92,rfl,by kernel_rfl,by kernel_rfl,rfl⟩⟩
theorem body92:HasBody Try.prog 92:=hasBody_of (by kernel_rfl)

def ir94:IC :=
 .seq (.reg 0 2 [o1 1 (.box 96 (.t 0)) 0,o1 2 (.mv (.k (.slice .none 0 0))) 1]) (.seq (.seq (.reg 2 4
 [o1 5 (.faddr 4 (.t 1)) 2,o1 6 (.load 1 .false (.t 5)) 3,o1 7 (.len (.t 6)) 4,o1 8 (.mv (.k (.int .i64 0))) 5]) (.block 0 (.loop (.seq (.reg 6 1 [o1 9 (.bin .lss (.t 8) (.t 7)) 6]) (.seq (.cond (.t 9) .skip (.exit 0)) (.seq (.block 1 (.seq (.reg 7 4 [o1 10 (.iaddr 2 (.t 6) (.t 8)) 7,o1 11 (.load 2 .true (.t 10)) 8,o1 4 (.alloc 93 [.int .i64 0, .slice .none 0 0]) 9,o2 (.store 2 (.t 4) (.t 11)) 10]) (.reg 11 5 [o1 12 (.mv (.t 2)) 11,o1 13 (.faddr 1 (.t 4)) 12,
 o1 14 (.load 1 .false (.t 13)) 13,o1 15 (.app 101 2 24 (.t 12) (.t 14)) 14,o1 2 (.mv (.t 15)) 15]))) (.reg 16 2 [o1 16 (.bin .add (.t 8) (.k (.int .i64 1))) 16,o1 8 (.mv (.t 16)) 17]))))))) (.seq (.reg 18 2 [o1 17 (.mv (.t 2)) 18,o1 2 (.mv (.t 17)) 19]) .ret))
def rs94:List IRes:=[.tmp 2]
set_option maxRecDepth 100000 in
theorem comp94:Comp Try.prog 94 ir94 rs94 18:=⟨⟨_,_,20,Try.func94,rfl,by kernel_rfl,by kernel_rfl,rfl⟩⟩
theorem body94:HasBody Try.prog 94:=hasBody_of (by kernel_rfl)

def ir95:IC :=
 .seq (.reg 0 2 [o1 2 (.box 96 (.t 0)) 0,o1 4 (.alloc 41 [.int .i64 0]) 1]) (.seq (.reg 2 3 [o1 9 .mkm 2,o1 5 (.alloc 215 [.map .none]) 3,o2 (.store 1 (.t 5) (.t 9)) 4])
 (.seq (.seq (.reg 5 4 [o1 10 (.load 5 .true (.t 2)) 5,o1 11 (.call 94 [.t 10]) 6,o1 12 (.len (.t 11)) 7,o1 13 (.mv (.k (.int .i64 0))) 8]) (.block 0 (.loop (.seq (.reg 9 1 [o1 14 (.bin .lss (.t 13) (.t 12)) 9]) (.seq (.cond (.t 14) .skip (.exit 0)) (.seq (.block 1 (.seq (.reg 10 4 [o1 15 (.iaddr 2 (.t 11) (.t 13)) 10,o1 16 (.load 2 .true (.t 15)) 11, .mk (.some 7) (.alloc 101 [.int .i64 0, .string (ByteArray.mk (Array.mk []))]) .none 12
 .none .false [] .false,o2 (.store 2 (.t 7) (.t 16)) 13]) (.reg 14 4 [o1 17 (.load 1 .false (.t 5)) 14,
 o1 18 (.faddr 0 (.t 7)) 15,o1 19 (.load 1 .false (.t 18)) 16,o2 (.mup 3 (.t 17) (.t 19) (.k (.bool .true))) 17]))) (.reg 18 2 [o1 20 (.bin .add (.t 13) (.k (.int .i64 1))) 18,o1 13 (.mv (.t 20)) 19]))))))) (.seq (.seq (.reg 20 2 [o1 21 (.mv (.t 1)) 20,o1 22 (.call 139 [.t 21, .k (.int .i64 99999)]) 21]) (.block 2 (.range (.t 22) [23] (.reg 22 2 [.mk (.some 8) (.alloc 213 [.int .i64 0, .int .i64 0, .int .u8 0, .int .i64 0, .string
 (ByteArray.mk (Array.mk [])), .int .i64 0]) .none 22 .none .false [] .false,o2 (.store 6 (.t 8) (.t 23)) 23]) (.block 3 (.seq (.seq (.reg 24 5
 [o1 24 (.load 1 .false (.t 5)) 24,o1 25 (.faddr 3 (.t 8)) 25,o1 26 (.load 1 .false (.t 25)) 26,o1 27 (.lkp 3 (.bool .false) .false (.t 24) (.t 26)) 27,o1 28 (.un .not (.t 27)) 28]) (.cond (.t 28) (.seq (.reg 29 1 [o2 (.store 1 (.t 4) (.k (.int .i64 7))) 29]) .ret) .skip)) (.seq (.reg 30 3 [o1 29 (.faddr 2 (.t 8)) 30,o1 30 (.load 1 .false (.t 29)) 31,o1 31 (.bin .eql (.t 30) (.k (.int .u8 2))) 32]) (.cond (.t 31) (.reg 33 4 [o1 32 (.load 1 .false (.t 5)) 33,o1 33 (.faddr 5 (.t 8)) 34,o1 34 (.load 1 .false (.t 33)) 35,o2 (.mup 3 (.t 32) (.t 34) (.k (.bool .true))) 36]) .skip))))))) (.seq (.reg 37 1 [o2 (.store 1 (.t 4) (.k (.int .i64 0))) 37]) .ret))))
def rs95:List IRes:=[.cell 4 1 .false]
set_option maxRecDepth 100000 in
theorem comp95:Comp Try.prog 95 ir95 rs95 35:=⟨⟨_,_,38,Try.func95,rfl,by kernel_rfl,by kernel_rfl,rfl⟩⟩
theorem body95:HasBody Try.prog 95:=hasBody_of (by kernel_rfl)

def ir96:IC :=
 .seq (.reg 0 2 [o1 3 (.box 96 (.t 0)) 0,o1 6 (.mv (.k (.pointer .none))) 1]) (.seq (.reg 2 5 [o1 17 (.load 5 .true (.t 3)) 2,o1 18 (.bld [(0,5),(5,1)] [.int .i64 0, .int .i64 0, .int .i64 0, .int .i64 0, .slice .none 0 0, .slice .none 0 0] [(0, .t 17)]) 3,o1 19 (.box 222 (.t 18)) 4,o1 7 (.alloc 218 [.pointer .none]) 5,o2 (.store 1 (.t 7) (.t 19)) 6]) (.seq (.seq (.reg 7 4 [o1 20 (.faddr 4 (.t 3)) 7,o1 21 (.load 1 .false (.t 20)) 8,o1 22 (.len (.t 21)) 9,o1 23 (.mv (.k (.int .i64 0))) 10]) (.block 0 (.loop (.seq (.reg 11 1 [o1 24 (.bin .lss (.t 23) (.t 22)) 11]) (.seq (.cond (.t 24) .skip
 (.exit 0)) (.seq (.block 1 (.seq (.reg 12 4 [o1 25 (.iaddr 2 (.t 21) (.t 23)) 12,o1 26 (.load 2 .true (.t 25)) 13,o1 9 (.alloc 93 [.int .i64 0, .slice .none 0 0]) 14,o2 (.store 2 (.t 9) (.t 26)) 15])
 (.seq (.reg 16 1 [o1 10 (.mv (.k (.slice .none 0 0))) 16]) (.seq (.seq (.reg 17 4 [o1 27 (.faddr 1 (.t 9)) 17,o1 28 (.load 1 .false (.t 27)) 18,o1 29 (.len (.t 28)) 19,o1 30 (.mv (.k (.int .i64 0))) 20]) (.block 2 (.loop (.seq (.reg 21 1 [o1 31 (.bin .lss (.t 30) (.t 29)) 21]) (.seq (.cond (.t 31) .skip
 (.exit 2)) (.seq (.block 3 (.seq (.reg 22 4 [o1 32 (.iaddr 2 (.t 28) (.t 30)) 22,o1 33 (.load 2 .true (.t 32)) 23, .mk (.some 12) (.alloc 101 [.int .i64 0, .string (ByteArray.mk (Array.mk []))]) .none 24 .none .false [] .false,o2 (.store 2 (.t 12) (.t 33)) 25]) (.reg 26 6 [o1 34 (.mv (.t 10)) 26,o1 35 (.load 2 .true (.t 12)) 27, .mk
 (.some 36) (.bld [(0,2),(2,1)] [.int .i64 0, .string (ByteArray.mk (Array.mk [])), .bool .false] [(0, .t 35),(1, .k (.bool .false))]) .none 28 .none .false [] .false, .mk
 (.some 37) (.bsl 225 3 1 [.int .i64 0, .string (ByteArray.mk (Array.mk [])), .bool .false] [(0, .t 36)]) .none 29 .none .false [] .false,o1 38 (.app 225 3 32 (.t 34) (.t 37)) 30,o1 10 (.mv (.t 38)) 31]))) (.reg 32 2 [o1 39 (.bin .add (.t 30) (.k (.int .i64 1))) 32,o1 30 (.mv (.t 39)) 33]))))))) (.drawd 34 11 [10] [] [] [.some [7], .some [7], .none, .none, .none, .none, .none,
 .none, .none, .none, .none] [(0,o3 40 (.load 1 .false (.t 7)) 34),(1,o3 41 (.load 1 .false (.t 7)) 35),(2, .mk (.some 42) (.nilc (.t 41)) .none 36 (.some []) .true [1] .false),(3, .mk (.some 43) (.faddr 5 (.t 42)) .none 37 (.some []) .true [1,2] .false),(4, .mk
 (.some 44) (.load 1 .false (.t 43)) .none 38 (.some []) .true [2,1,3] .false),(5,o3 45 (.mv (.t 10)) 39),(6, .mk (.some 46) (.bsl
 223 1 1 [.slice .none 0 0] [(0, .t 45)]) .none 40 (.some []) .true [5] .false),(7, .mk (.some 47) (.app 223 1 24 (.t 44) (.t 46)) .none 41 (.some [40]) .true [5,6,3,1,2,4]
 .true),(8, .mk (.some 48) (.nilc (.t 40)) .none 42 (.some [41,40]) .true [7,6,5,4,3,2,1,0] .false),(9, .mk (.some 49) (.faddr 5 (.t 48)) .none 43 (.some [40,41]) .true
 [0,1,2,3,4,5,6,7,8] .false),(10, .mk .none (.store 1 (.t 49) (.t 47)) .none 44 (.some [41,40]) .true [8,7,6,5,4,3,2,1,0,9] .false)]))))) (.reg 45 2 [o1 50 (.bin .add (.t 23) (.k (.int .i64 1))) 45,o1 23 (.mv (.t 50)) 46]))))))) (.seq (.seq (.reg 47 3 [o1 51 (.mv (.t 1)) 47,o1 52 (.mv (.t 2)) 48,o1 53 (.call 139 [.t 51, .t 52]) 49]) (.block 4 (.range (.t 53) [54] (.reg 50 2 [.mk (.some 13) (.alloc 213 [.int .i64 0, .int .i64 0, .int .u8 0, .int .i64 0, .string (ByteArray.mk (Array.mk [])), .int .i64
 0]) .none 50 .none .false [] .false,o2 (.store 6 (.t 13) (.t 54)) 51]) (.block 5 (.seq (.reg 52 11 [o1 56 (.load 1 .false (.t 7)) 52,o1 57 (.faddr 3 (.t 13)) 53,o1 58 (.load 1 .false (.t 57)) 54,o1 59 (.call 140 [.t 56, .t 58]) 55,o1 55 (.mv (.t 59)) 56,o1 60 (.ext (.t 55) 0) 57,o1 61 (.ext (.t 55) 1) 58,o1 62 (.ext (.t 55) 2) 59,o1 14 (.mv (.t 60)) 60,o1 15 (.mv (.t 61)) 61,o1 16 (.mv (.t 62)) 62]) (.seq (.reg 63 1 [o1 63 (.mv (.t 16)) 63]) (.cond (.t 63) (.draw 64 11 [13,15,14,7] [] [o3 64 (.call 141 []) 64,o3 65 (.faddr 2 (.t 13)) 65,o3 66 (.load 1 .false (.t 65)) 66, .mk (.some 67) (.iaddr 1 (.t 64)
 (.t 66)) .none 67 (.some [64]) .true [] .false, .mk (.some 68) (.faddr 0 (.t 67)) .none 68 (.some [64]) .true [] .false, .mk (.some 69) (.load 1 .false (.t 68)) .none 69 (.some
 [64]) .false [] .false,o3 70 (.load 1 .false (.t 7)) 70,o3 71 (.mv (.t 14)) 71,o3 72 (.mv (.t 15)) 72,o3 73 (.load 6 .true (.t 13)) 73, .mk (.some 74) (.callv (.t 69) [.t 70, .t 71, .t
 72, .t 73]) .none 74 (.some [64]) .false [] .false]) .skip))))))) (.seq (.reg 75 2 [o1 75 (.load 1 .false (.t 7)) 75,o1 6 (.mv (.t 75)) 76]) .ret))))
def rs96:List IRes:=[.tmp 6]
set_option maxRecDepth 100000 in
theorem comp96:Comp Try.prog 96 ir96 rs96 76:=⟨⟨_,_,77,Try.func96,rfl,by kernel_rfl,by kernel_rfl,rfl⟩⟩
theorem body96:HasBody Try.prog 96:=hasBody_of (by kernel_rfl)

def ir132:IC :=
 .seq (.reg 0 2 [o1 1 (.box 96 (.t 0)) 0,o1 2 (.mv (.k (.bool .false))) 1]) (.seq (.seq (.reg 2 4 [o1 5 (.faddr 4 (.t 1)) 2,o1 6 (.load 1 .false (.t 5)) 3,o1 7 (.len (.t 6)) 4,o1 8 (.mv (.k (.int .i64 0))) 5]) (.block 0 (.loop (.seq (.reg 6 1 [o1 9 (.bin .lss (.t 8) (.t 7)) 6]) (.seq (.cond (.t 9) .skip (.exit 0)) (.seq (.block 1 (.seq (.reg 7 6 [o1 10 (.mv (.t 8)) 7,o1 11 (.iaddr 2 (.t 6) (.t 8)) 8,o1 12 (.load 2 .true (.t 11)) 9,o1 4 (.alloc 93 [.int .i64 0, .slice .none 0 0]) 10,o1 3 (.mv (.t 10)) 11,o2 (.store 2 (.t 4) (.t 12)) 12]) (.seq (.draw 13 27 [4] [] [o3 13 (.faddr 0 (.t 4)) 13,o3 14 (.load 1 .false (.t 13)) 14,o3 15 (.call 136 [.t 14]) 15, .mk (.some 16) (.un .not (.t 15)) .none 16 (.some [15]) .true [] .false, .mk (.some 17) (.mv (.t 16)) .none 17 (.some [15]) .true [] .false,
 .mk (.some 18) (.faddr 0 (.t 4)) (.some (17, .false)) 18 (.some [15]) .true [] .false, .mk (.some 19) (.load 1 .false (.t 18)) (.some (17, .false)) 19 (.some [15]) .false []
 .false, .mk (.some 20) (.faddr 1 (.t 1)) (.some (17, .false)) 20 (.some [15]) .true [] .false, .mk (.some 21) (.load 1 .false (.t 20)) (.some (17, .false)) 21 (.some [15]) .false
 [] .false, .mk (.some 22) (.bin .gtr (.t 19) (.t 21)) (.some (17, .false)) 22 (.some [15]) .true [] .false, .mk (.some 23) (.pick (.t 17) (.k (.bool .true)) (.t 22)) .none 23
 (.some [15]) .true [] .false, .mk (.some 24) (.mv (.t 23)) .none 24 (.some [15]) .true [] .false, .mk (.some 25) (.mv (.t 3)) (.some (24, .false)) 25 (.some [15]) .true [] .false,
 .mk (.some 26) (.bin .gtr (.t 25) (.k (.int .i64 0))) (.some (24, .false)) 26 (.some [15]) .true [] .false, .mk (.some 27) (.mv (.t 26)) (.some (24, .false)) 27 (.some [15]) .true
 [] .false, .mk (.some 28) (.faddr 0 (.t 4)) (.some (27, .true)) 28 (.some [15]) .true [] .false, .mk (.some 29) (.load 1 .false (.t 28)) (.some (27, .true)) 29 (.some [15]) .false
 [] .false, .mk (.some 30) (.faddr 4 (.t 1)) (.some (27, .true)) 30 (.some [15]) .true [] .false, .mk (.some 31) (.load 1 .false (.t 30)) (.some (27, .true)) 31 (.some [15]) .false
 [] .false, .mk (.some 32) (.mv (.t 3)) (.some (27, .true)) 32 (.some [15]) .true [] .false, .mk (.some 33) (.bin .sub (.t 32) (.k (.int .i64 1))) (.some (27, .true)) 33 (.some
 [15]) .true [] .false, .mk (.some 34) (.iaddr 2 (.t 31) (.t 33)) (.some (27, .true)) 34 (.some [15]) .true [] .false, .mk (.some 35) (.faddr 0 (.t 34)) (.some (27, .true)) 35
 (.some [15]) .true [] .false, .mk (.some 36) (.load 1 .false (.t 35)) (.some (27, .true)) 36 (.some [15]) .false [] .false, .mk (.some 37) (.bin .leq (.t 29) (.t 36)) (.some (27,
 .true)) 37 (.some [15]) .true [] .false, .mk (.some 38) (.pick (.t 27) (.t 37) (.k (.bool .false))) (.some (24, .false)) 38 (.some [15]) .true [] .false, .mk (.some 39) (.pick (.t
 24) (.k (.bool .true)) (.t 38)) .none 39 (.some [15]) .true [] .false]) (.cond (.t 39) (.seq (.reg 40 1 [o1 2 (.mv (.k (.bool .false))) 40])
 .ret) .skip)))) (.reg 41 2 [o1 40 (.bin .add (.t 8) (.k (.int .i64 1))) 41,o1 8 (.mv (.t 40)) 42]))))))) (.seq (.reg 43 24 [o1 41 (.faddr 0 (.t 1)) 43,o1 42 (.load 1 .false (.t 41)) 44,o1 43 (.call 135 [.t 42, .k (.int .i64 1), .k (.int .i64 99)]) 45,o1 44 (.mv (.t 43)) 46, .mk (.some 45)
 (.faddr 1 (.t 1)) (.some (44, .true)) 47 .none .false [] .false, .mk (.some 46) (.load 1 .false (.t 45)) (.some (44, .true)) 48 .none .false [] .false, .mk (.some 47) (.call 136
 [.t 46]) (.some (44, .true)) 49 .none .false [] .false,o1 48 (.pick (.t 44) (.t 47) (.k (.bool .false))) 50,o1 49 (.mv (.t 48)) 51, .mk (.some 50) (.faddr 2 (.t 1)) (.some (49, .true)) 52 .none .false [] .false, .mk (.some 51) (.load 1 .false (.t 50)) (.some (49, .true)) 53
 .none .false [] .false, .mk (.some 52) (.call 135 [.t 51, .k (.int .i64 1), .k (.int .i64 60)]) (.some (49, .true)) 54 .none .false [] .false,o1 53 (.pick (.t 49) (.t 52) (.k (.bool .false))) 55,o1 54 (.mv (.t 53)) 56, .mk (.some 55) (.faddr 3 (.t 1)) (.some (54, .true)) 57
 .none .false [] .false, .mk (.some 56) (.load 1 .false (.t 55)) (.some (54, .true)) 58 .none .false [] .false, .mk (.some 57) (.call 135 [.t 56, .k (.int .i64 10), .k (.int .i64
 80)]) (.some (54, .true)) 59 .none .false [] .false,o1 58 (.pick (.t 54) (.t 57) (.k (.bool .false))) 60,o1 59 (.mv (.t 58)) 61, .mk (.some 60) (.load 5 .true (.t 1)) (.some (59, .true)) 62 .none .false [] .false, .mk (.some 61) (.call 94 [.t 60]) (.some (59, .true)) 63 .none
 .false [] .false, .mk (.some 62) (.call 169 [.t 61, .f 170]) (.some (59, .true)) 64 .none .false [] .false,o1 63 (.pick (.t 59) (.t 62) (.k (.bool .false))) 65,o1 2 (.mv (.t 63)) 66]) .ret))
def rs132:List IRes:=[.tmp 2]
set_option maxRecDepth 100000 in
theorem comp132:Comp Try.prog 132 ir132 rs132 64:=⟨⟨_,_,67,Try.func132,rfl,by kernel_rfl,by kernel_rfl,rfl⟩⟩
theorem body132:HasBody Try.prog 132:=hasBody_of (by kernel_rfl)

def ir133:IC :=
 .seq (.reg 1 1 [o1 4 (.mv (.k (.bool .false))) 1]) (.seq (.reg 2 5 [o1 5 (.mv (.t 0)) 2,o1 6 (.mv (.t 1)) 3,o1 7 (.call 171 [.t 5, .t 6]) 4,o1 8 (.bin .geq (.t 7) (.k (.int .i64 0))) 5,o1 4 (.mv (.t 8)) 6]) .ret)
def rs133:List IRes:=[.tmp 4]
set_option maxRecDepth 100000 in
theorem comp133:CompAt Try.prog 133 1 ir133 rs133 9:=⟨⟨_,_,7,Try.func133,rfl,by kernel_rfl,by kernel_rfl,rfl⟩⟩
theorem body133:HasBody Try.prog 133:=hasBody_of (by kernel_rfl)

def ir134:IC :=
 .seq (.reg 1 2 [o1 2 (.box 213 (.t 0)) 1,o1 3 (.mv (.k (.bool .false))) 2]) (.seq (.reg 3 5 [o1 4 (.load 1 .false (.t 1)) 3,o1 5 (.load 6 .true (.t 2)) 4,o1 6 (.callv (.t 4) [.t 5]) 5,o1 7 (.un .not (.t 6)) 6,o1 3 (.mv (.t 7)) 7]) .ret)
def rs134:List IRes:=[.tmp 3]
set_option maxRecDepth 100000 in
theorem comp134:CompAt Try.prog 134 1 ir134 rs134 8:=⟨⟨_,_,8,Try.func134,rfl,by kernel_rfl,by kernel_rfl,rfl⟩⟩
theorem body134:HasBody Try.prog 134:=hasBody_of (by kernel_rfl)

def ir135:IC :=
 .seq (.reg 0 1 [o1 6 (.mv (.k (.bool .false))) 0]) (.seq (.reg 1 9 [o1 7 (.mv (.t 1)) 1,o1 8 (.mv (.t 0)) 2,o1 9 (.bin .leq (.t 7) (.t 8)) 3,o1 10 (.mv (.t 9)) 4,
 .mk (.some 11) (.mv (.t 0)) (.some (10, .true)) 5 .none .false [] .false, .mk (.some 12) (.mv (.t 2)) (.some (10, .true)) 6 .none .false [] .false, .mk (.some 13) (.bin .leq (.t
 11) (.t 12)) (.some (10, .true)) 7 .none .false [] .false,o1 14 (.pick (.t 10) (.t 13) (.k (.bool .false))) 8,o1 6 (.mv (.t 14)) 9]) .ret)
def rs135:List IRes:=[.tmp 6]
set_option maxRecDepth 100000 in
theorem comp135:Comp Try.prog 135 ir135 rs135 15:=⟨⟨_,_,10,Try.func135,rfl,by kernel_rfl,by kernel_rfl,rfl⟩⟩
theorem body135:HasBody Try.prog 135:=hasBody_of (by kernel_rfl)

def ir136:IC :=
 .seq (.reg 0 1 [o1 2 (.mv (.k (.bool .false))) 0]) (.seq (.reg 1 3 [o1 3 (.mv (.t 0)) 1,o1 4 (.call 135 [.t 3, .k (.int .i64 0), .k (.int .i64 99999)]) 2,o1 2 (.mv (.t 4)) 3]) .ret)
def rs136:List IRes:=[.tmp 2]
set_option maxRecDepth 100000 in
theorem comp136:Comp Try.prog 136 ir136 rs136 5:=⟨⟨_,_,4,Try.func136,rfl,by kernel_rfl,by kernel_rfl,rfl⟩⟩
theorem body136:HasBody Try.prog 136:=hasBody_of (by kernel_rfl)

def ir137:IC :=
 .seq (.reg 0 1 [o1 2 (.mv (.k (.bool .false))) 0]) (.seq (.reg 1 3 [o1 3 (.mv (.t 0)) 1,o1 4 (.call 135 [.t 3, .k (.int .i64 1), .k (.int .i64 999)]) 2,o1 2 (.mv (.t 4)) 3]) .ret)
def rs137:List IRes:=[.tmp 2]
set_option maxRecDepth 100000 in
theorem comp137:Comp Try.prog 137 ir137 rs137 5:=⟨⟨_,_,4,Try.func137,rfl,by kernel_rfl,by kernel_rfl,rfl⟩⟩
theorem body137:HasBody Try.prog 137:=hasBody_of (by kernel_rfl)

def ir138:IC :=
 .seq (.reg 0 1 [o1 2 (.mv (.k (.bool .false))) 0]) (.seq (.reg 1 9 [o1 3 (.mv (.t 0)) 1,o1 4 (.lenS (.t 3)) 2,o1 5 (.call 135 [.t 4, .k (.int .i64 1), .k (.int .i64 200)]) 3,o1 6 (.mv (.t 5)) 4, .mk (.some 7) (.mv (.t 0)) (.some (6, .true)) 5 .none .false [] .false, .mk (.some 8) (.s2b 5 (.t 7)) (.some (6, .true)) 6 .none .false [] .false,
 .mk (.some 9) (.call 172 [.t 8, .f 173]) (.some (6, .true)) 7 .none .false [] .false,o1 10 (.pick (.t 6) (.t 9) (.k (.bool .false))) 8,o1 2 (.mv (.t 10)) 9]) .ret)
def rs138:List IRes:=[.tmp 2]
set_option maxRecDepth 100000 in
theorem comp138:Comp Try.prog 138 ir138 rs138 11:=⟨⟨_,_,10,Try.func138,rfl,by kernel_rfl,by kernel_rfl,rfl⟩⟩
theorem body138:HasBody Try.prog 138:=hasBody_of (by kernel_rfl)

def ir139:IC :=
 .seq (.reg 0 3 [o1 2 (.box 178 (.t 0)) 0,o1 3 (.box 3 (.t 1)) 1,o1 4 (.mv (.k .nilFunc)) 2]) (.seq (.reg 3 2 [o1 5 (.mkf 174 [] [.t 2, .t 3]) 3,o1 4 (.mv (.t 5)) 4])
 .ret)
def rs139:List IRes:=[.tmp 4]
set_option maxRecDepth 100000 in
theorem comp139:Comp Try.prog 139 ir139 rs139 6:=⟨⟨_,_,5,Try.func139,rfl,by kernel_rfl,by kernel_rfl,rfl⟩⟩
theorem body139:HasBody Try.prog 139:=hasBody_of (by kernel_rfl)

def ir169:IC :=
 .seq (.reg 0 2 [o1 3 (.box 270 (.t 1)) 0,o1 4 (.mv (.k (.bool .false))) 1]) (.seq (.reg 2 5 [o1 5 (.mv (.t 0)) 2,o1 6 (.mkf 195 [] [.t 3]) 3,o1 7 (.call 194 [.t 5, .t 6]) 4,o1 8 (.un .not (.t 7)) 5,o1 4 (.mv (.t 8)) 6]) .ret)
def rs169:List IRes:=[.tmp 4]
set_option maxRecDepth 100000 in
theorem comp169:Comp Try.prog 169 ir169 rs169 9:=⟨⟨_,_,7,Try.func169,rfl,by kernel_rfl,by kernel_rfl,rfl⟩⟩
theorem body169:HasBody Try.prog 169:=hasBody_of (by kernel_rfl)

def ir170:IC :=
 .seq (.reg 0 2 [o1 1 (.box 101 (.t 0)) 0,o1 2 (.mv (.k (.bool .false))) 1]) (.seq (.reg 2 9 [o1 3 (.faddr 0 (.t 1)) 2,o1 4 (.load 1 .false (.t 3)) 3,o1 5 (.call 137 [.t 4]) 4,o1 6 (.mv (.t 5)) 5, .mk (.some 7) (.faddr 1 (.t 1)) (.some (6, .true)) 6 .none .false [] .false, .mk (.some 8) (.load 1 .false (.t
 7)) (.some (6, .true)) 7 .none .false [] .false, .mk (.some 9) (.call 138 [.t 8]) (.some (6, .true)) 8 .none .false [] .false,o1 10 (.pick (.t 6) (.t 9) (.k (.bool .false))) 9,o1 2 (.mv (.t 10)) 10]) .ret)
def rs170:List IRes:=[.tmp 2]
set_option maxRecDepth 100000 in
theorem comp170:Comp Try.prog 170 ir170 rs170 11:=⟨⟨_,_,11,Try.func170,rfl,by kernel_rfl,by kernel_rfl,rfl⟩⟩
theorem body170:HasBody Try.prog 170:=hasBody_of (by kernel_rfl)

def ir171:IC :=
 .seq (.reg 1 1 [o1 4 (.mv (.k (.int .i64 0))) 1]) (.seq (.seq (.reg 2 3 [o1 6 (.mv (.t 0)) 2,o1 7 (.len (.t 6)) 3,o1 8 (.mv (.k (.int .i64 0))) 4]) (.block 0 (.loop (.seq (.reg 5 1 [o1 9 (.bin .lss (.t 8) (.t 7)) 5]) (.seq (.cond (.t 9) .skip (.exit 0)) (.seq (.block 1 (.seq (.reg 6 2 [o1 10 (.mv (.t 8)) 6,
 o1 5 (.mv (.t 10)) 7]) (.seq (.reg 8 6 [o1 11 (.mv (.t 1)) 8,o1 12 (.mv (.t 0)) 9,o1 13 (.mv (.t 5)) 10,o1 14 (.iaddr 6 (.t 12) (.t 13)) 11,o1 15 (.load 6 .true (.t 14)) 12,o1 16 (.callv (.t 11) [.t 15]) 13]) (.cond (.t 16) (.seq (.reg 14 2 [o1 17 (.mv (.t 5)) 14,o1 4 (.mv (.t 17)) 15]) .ret) .skip)))) (.reg 16 2 [o1 18 (.bin .add (.t 8) (.k (.int .i64 1))) 16,o1 8 (.mv (.t 18)) 17]))))))) (.seq (.reg 18 1 [o1 4 (.mv (.k (.int .i64 (-1)))) 18]) .ret))
def rs171:List IRes:=[.tmp 4]
set_option maxRecDepth 100000 in
theorem comp171:CompAt Try.prog 171 1 ir171 rs171 19:=⟨⟨_,_,19,Try.func171,rfl,by kernel_rfl,by kernel_rfl,rfl⟩⟩
theorem body171:HasBody Try.prog 171:=hasBody_of (by kernel_rfl)

def ir172:IC :=
 .seq (.reg 0 2 [o1 3 (.box 244 (.t 1)) 0,o1 4 (.mv (.k (.bool .false))) 1]) (.seq (.reg 2 5 [o1 5 (.mv (.t 0)) 2,o1 6 (.mkf 196 [] [.t 3]) 3,o1 7 (.call 159 [.t 5, .t 6]) 4,o1 8 (.un .not (.t 7)) 5,o1 4 (.mv (.t 8)) 6]) .ret)
def rs172:List IRes:=[.tmp 4]
set_option maxRecDepth 100000 in
theorem comp172:Comp Try.prog 172 ir172 rs172 9:=⟨⟨_,_,7,Try.func172,rfl,by kernel_rfl,by kernel_rfl,rfl⟩⟩
theorem body172:HasBody Try.prog 172:=hasBody_of (by kernel_rfl)

def ir173:IC :=
 .seq (.reg 0 1 [o1 2 (.mv (.k (.bool .false))) 0]) (.seq (.reg 1 7 [o1 3 (.mv (.t 0)) 1,o1 4 (.bin .leq (.k (.int .u8 32)) (.t 3)) 2,o1 5 (.mv (.t 4)) 3, .mk (.some 6) (.mv (.t 0)) (.some (5, .true)) 4
 .none .false [] .false, .mk (.some 7) (.bin .leq (.t 6) (.k (.int .u8 126))) (.some (5, .true)) 5 .none .false [] .false,o1 8 (.pick (.t 5) (.t 7) (.k (.bool .false))) 6,o1 2 (.mv (.t 8)) 7]) .ret)
def rs173:List IRes:=[.tmp 2]
set_option maxRecDepth 100000 in
theorem comp173:Comp Try.prog 173 ir173 rs173 9:=⟨⟨_,_,8,Try.func173,rfl,by kernel_rfl,by kernel_rfl,rfl⟩⟩
theorem body173:HasBody Try.prog 173:=hasBody_of (by kernel_rfl)

def ir174:IC :=
 .seq (.reg 0 3 [o1 7 (.load 1 .false (.t 1)) 0,o1 8 (.call 175 [.t 7]) 1,o1 4 (.mv (.t 8)) 2]) (.seq (.reg 3 2 [o1 9 (.mv (.t 4)) 3,o1 10 (.call 176 [.t 9, .f 177]) 4]) (.seq (.reg 5 3 [o1 11 (.mv (.t 4)) 5,o1 12 (.len (.t 11)) 6,o1 13 (.mv (.k (.int .i64 0))) 7]) (.block 0 (.loop (.seq (.reg 8 1 [o1 14 (.bin .lss (.t 13) (.t 12)) 8]) (.seq (.cond (.t 14) .skip
 (.exit 0)) (.seq (.block 1 (.seq (.reg 9 4 [o1 15 (.iaddr 6 (.t 11) (.t 13)) 9,o1 16 (.load 6 .true (.t 15)) 10, .mk (.some 6) (.alloc 213 [.int .i64 0, .int .i64 0, .int .u8 0, .int .i64 0, .string (ByteArray.mk (Array.mk [])), .int .i64 0]) .none 11 .none .false [] .false,o2 (.store 6 (.t 6) (.t 16)) 12]) (.seq (.reg 13 10 [o1 17 (.faddr 1 (.t 6)) 13,o1 18 (.load 1 .false (.t 17)) 14,o1 19 (.load 1 .false (.t 2)) 15,o1 20 (.bin .gtr (.t 18) (.t 19)) 16,o1 21 (.mv (.t 20)) 17, .mk (.some 22) (.mv (.t 0)) (.some (21, .false)) 18 .none .false [] .false, .mk (.some 23) (.load 6
 .true (.t 6)) (.some (21, .false)) 19 .none .false [] .false, .mk (.some 24) (.callv (.t 22) [.t 23]) (.some (21, .false)) 20 .none .false [] .false, .mk (.some 25) (.un .not (.t
 24)) (.some (21, .false)) 21 .none .false [] .false,o1 26 (.pick (.t 21) (.k (.bool .true)) (.t 25)) 22]) (.cond (.t 26) .ret .skip))))
 (.reg 23 2 [o1 27 (.bin .add (.t 13) (.k (.int .i64 1))) 23,o1 13 (.mv (.t 27)) 24]))))))))
def rs174:List IRes:=[]
set_option maxRecDepth 100000 in
theorem comp174:Comp Try.prog 174 ir174 rs174 28:=⟨⟨_,_,25,Try.func174,rfl,by kernel_rfl,by kernel_rfl,rfl⟩⟩
theorem body174:HasBody Try.prog 174:=hasBody_of (by kernel_rfl)

def ir175:IC :=
 .seq (.reg 0 1 [o1 2 (.mv (.k (.slice .none 0 0))) 0]) (.seq (.seq (.reg 1 2 [o1 3 (.mv (.t 0)) 1,o1 4 (.pur (.bin .eql 178) [.t 3, .k (.slice .none 0 0)]) 2]) (.cond (.t 4) (.seq (.reg 3 1 [o1 2 (.mv (.k (.slice .none 0 0))) 3]) .ret) .skip)) (.seq (.reg 4 4 [o1 5 (.bsl 213 6 0 [] []) 4,o1 6 (.mv (.t 0)) 5,o1 7 (.app 213 6 56 (.t 5) (.t 6)) 6,o1 2 (.mv (.t 7)) 7]) .ret))
def rs175:List IRes:=[.tmp 2]
set_option maxRecDepth 100000 in
theorem comp175:Comp Try.prog 175 ir175 rs175 8:=⟨⟨_,_,8,Try.func175,rfl,by kernel_rfl,by kernel_rfl,rfl⟩⟩
theorem body175:HasBody Try.prog 175:=hasBody_of (by kernel_rfl)

def ir176:IC :=
 .seq (.reg 0 3 [o1 5 (.mv (.t 0)) 0,o1 6 (.len (.t 5)) 1,o1 4 (.mv (.t 6)) 2]) (.reg 3 7 [o1 7 (.mv (.t 0)) 3,o1 8 (.mv (.t 4)) 4,o1 9 (.mv (.t 4)) 5,o1 10 (.conv .u64 (.t 9)) 6,o1 11 (.call 198 [.t 10]) 7,o1 12 (.mv (.t 1)) 8,o1 13 (.call 197 [.t 7, .k (.int .i64 0), .t 8, .t 11, .t 12]) 9])
def rs176:List IRes:=[]
set_option maxRecDepth 100000 in
theorem comp176:Comp Try.prog 176 ir176 rs176 14:=⟨⟨_,_,10,Try.func176,rfl,by kernel_rfl,by kernel_rfl,rfl⟩⟩
theorem body176:HasBody Try.prog 176:=hasBody_of (by kernel_rfl)

def ir191:IC :=
 .seq (.reg 1 1 [o1 4 (.mv (.k (.int .i64 0))) 1]) (.seq (.seq (.reg 2 3 [o1 6 (.mv (.t 0)) 2,o1 7 (.len (.t 6)) 3,o1 8 (.mv (.k (.int .i64 0))) 4]) (.block 0 (.loop (.seq (.reg 5 1 [o1 9 (.bin .lss (.t 8) (.t 7)) 5]) (.seq (.cond (.t 9) .skip (.exit 0)) (.seq (.block 1 (.seq (.reg 6 2 [o1 10 (.mv (.t 8)) 6,
 o1 5 (.mv (.t 10)) 7]) (.seq (.reg 8 6 [o1 11 (.mv (.t 1)) 8,o1 12 (.mv (.t 0)) 9,o1 13 (.mv (.t 5)) 10,o1 14 (.iaddr 1 (.t 12) (.t 13)) 11,o1 15 (.load 1 .false (.t 14)) 12,o1 16 (.callv (.t 11) [.t 15]) 13]) (.cond (.t 16) (.seq (.reg 14 2 [o1 17 (.mv (.t 5)) 14,o1 4 (.mv (.t 17)) 15]) .ret) .skip)))) (.reg 16 2 [o1 18 (.bin .add (.t 8) (.k (.int .i64 1))) 16,o1 8 (.mv (.t 18)) 17]))))))) (.seq (.reg 18 1 [o1 4 (.mv (.k (.int .i64 (-1)))) 18]) .ret))
def rs191:List IRes:=[.tmp 4]
set_option maxRecDepth 100000 in
theorem comp191:CompAt Try.prog 191 1 ir191 rs191 19:=⟨⟨_,_,19,Try.func191,rfl,by kernel_rfl,by kernel_rfl,rfl⟩⟩
theorem body191:HasBody Try.prog 191:=hasBody_of (by kernel_rfl)

def ir159:IC :=
 .seq (.reg 1 1 [o1 4 (.mv (.k (.bool .false))) 1]) (.seq (.reg 2 5 [o1 5 (.mv (.t 0)) 2,o1 6 (.mv (.t 1)) 3,o1 7 (.call 191 [.t 5, .t 6]) 4,o1 8 (.bin .geq (.t 7) (.k (.int .i64 0))) 5,o1 4 (.mv (.t 8)) 6]) .ret)
def rs159:List IRes:=[.tmp 4]
set_option maxRecDepth 100000 in
theorem comp159:CompAt Try.prog 159 1 ir159 rs159 9:=⟨⟨_,_,7,Try.func159,rfl,by kernel_rfl,by kernel_rfl,rfl⟩⟩
theorem body159:HasBody Try.prog 159:=hasBody_of (by kernel_rfl)

def ir194:IC :=
 .seq (.reg 1 1 [o1 4 (.mv (.k (.bool .false))) 1]) (.seq (.reg 2 5 [o1 5 (.mv (.t 0)) 2,o1 6 (.mv (.t 1)) 3,o1 7 (.call 204 [.t 5, .t 6]) 4,o1 8 (.bin .geq (.t 7) (.k (.int .i64 0))) 5,o1 4 (.mv (.t 8)) 6]) .ret)
def rs194:List IRes:=[.tmp 4]
set_option maxRecDepth 100000 in
theorem comp194:CompAt Try.prog 194 1 ir194 rs194 9:=⟨⟨_,_,7,Try.func194,rfl,by kernel_rfl,by kernel_rfl,rfl⟩⟩
theorem body194:HasBody Try.prog 194:=hasBody_of (by kernel_rfl)

def ir195:IC :=
 .seq (.reg 1 2 [o1 2 (.box 101 (.t 0)) 1,o1 3 (.mv (.k (.bool .false))) 2]) (.seq (.reg 3 5 [o1 4 (.load 1 .false (.t 1)) 3,o1 5 (.load 2 .true (.t 2)) 4,o1 6 (.callv (.t 4) [.t 5]) 5,o1 7 (.un .not (.t 6)) 6,o1 3 (.mv (.t 7)) 7]) .ret)
def rs195:List IRes:=[.tmp 3]
set_option maxRecDepth 100000 in
theorem comp195:CompAt Try.prog 195 1 ir195 rs195 8:=⟨⟨_,_,8,Try.func195,rfl,by kernel_rfl,by kernel_rfl,rfl⟩⟩
theorem body195:HasBody Try.prog 195:=hasBody_of (by kernel_rfl)

def ir196:IC :=
 .seq (.reg 1 1 [o1 3 (.mv (.k (.bool .false))) 1]) (.seq (.reg 2 5 [o1 4 (.load 1 .false (.t 1)) 2,o1 5 (.mv (.t 0)) 3,o1 6 (.callv (.t 4) [.t 5]) 4,o1 7 (.un .not (.t 6)) 5,o1 3 (.mv (.t 7)) 6]) .ret)
def rs196:List IRes:=[.tmp 3]
set_option maxRecDepth 100000 in
theorem comp196:CompAt Try.prog 196 1 ir196 rs196 8:=⟨⟨_,_,7,Try.func196,rfl,by kernel_rfl,by kernel_rfl,rfl⟩⟩
theorem body196:HasBody Try.prog 196:=hasBody_of (by kernel_rfl)

def ir204:IC :=
 .seq (.reg 1 1 [o1 4 (.mv (.k (.int .i64 0))) 1]) (.seq (.seq (.reg 2 3 [o1 6 (.mv (.t 0)) 2,o1 7 (.len (.t 6)) 3,o1 8 (.mv (.k (.int .i64 0))) 4]) (.block 0 (.loop (.seq (.reg 5 1 [o1 9 (.bin .lss (.t 8) (.t 7)) 5]) (.seq (.cond (.t 9) .skip (.exit 0)) (.seq (.block 1 (.seq (.reg 6 2 [o1 10 (.mv (.t 8)) 6,
 o1 5 (.mv (.t 10)) 7]) (.seq (.reg 8 6 [o1 11 (.mv (.t 1)) 8,o1 12 (.mv (.t 0)) 9,o1 13 (.mv (.t 5)) 10,o1 14 (.iaddr 2 (.t 12) (.t 13)) 11,o1 15 (.load 2 .true (.t 14)) 12,o1 16 (.callv (.t 11) [.t 15]) 13]) (.cond (.t 16) (.seq (.reg 14 2 [o1 17 (.mv (.t 5)) 14,o1 4 (.mv (.t 17)) 15]) .ret) .skip)))) (.reg 16 2 [o1 18 (.bin .add (.t 8) (.k (.int .i64 1))) 16,o1 8 (.mv (.t 18)) 17]))))))) (.seq (.reg 18 1 [o1 4 (.mv (.k (.int .i64 (-1)))) 18]) .ret))
def rs204:List IRes:=[.tmp 4]
set_option maxRecDepth 100000 in
theorem comp204:CompAt Try.prog 204 1 ir204 rs204 19:=⟨⟨_,_,19,Try.func204,rfl,by kernel_rfl,by kernel_rfl,rfl⟩⟩
theorem body204:HasBody Try.prog 204:=hasBody_of (by kernel_rfl)

def ir197:IC :=
 .seq (.reg 0 1 [o1 10 (.mv (.k (.bool .true))) 0]) (.seq (.reg 1 1 [o1 11 (.mv (.k (.bool .true))) 1])
 (.block 0 (.loop (.block 1 (.seq (.reg 2 4 [o1 21 (.mv (.t 2)) 2,o1 22 (.mv (.t 1)) 3,o1 23 (.bin .sub (.t 21) (.t 22)) 4,o1 12 (.mv (.t 23)) 5]) (.seq (.seq (.reg 6 2 [o1 24 (.mv (.t 12)) 6,o1 25 (.bin .leq (.t 24) (.k (.int .i64 12))) 7]) (.cond (.t 25) (.seq (.reg 8 5 [o1 26 (.mv (.t 0)) 8,o1 27 (.mv (.t 1)) 9,o1 28 (.mv (.t 2)) 10,o1 29 (.mv (.t 4)) 11,o1 30 (.call 205 [.t 26, .t 27, .t 28, .t 29]) 12]) .ret) .skip)) (.seq (.seq (.reg 13 2 [o1 31 (.mv (.t 3)) 13,o1 32 (.bin .eql (.t 31) (.k (.int .i64 0))) 14]) (.cond (.t 32) (.seq (.reg 15 5 [o1 33 (.mv (.t 0)) 15,o1 34 (.mv (.t 1)) 16,o1 35 (.mv (.t 2)) 17,o1 36 (.mv (.t 4)) 18,o1 37 (.call 206 [.t 33, .t 34, .t 35, .t 36]) 19]) .ret) .skip)) (.seq (.seq (.reg
 20 2 [o1 38 (.mv (.t 10)) 20,o1 39 (.un .not (.t 38)) 21]) (.cond (.t 39) (.seq (.reg 22 5 [o1 40 (.mv (.t 0)) 22,o1 41 (.mv (.t 1)) 23,o1 42 (.mv (.t 2)) 24,o1 43 (.mv (.t 4)) 25,o1 44 (.call 207 [.t 40, .t 41, .t 42, .t 43]) 26]) (.reg 27 3 [o1 45 (.mv (.t 3)) 27,o1 46 (.bin .sub (.t 45) (.k (.int .i64 1))) 28,o1 3 (.mv (.t 46)) 29])) .skip)) (.seq (.reg 30 10 [o1 48 (.mv (.t 0)) 30,o1 49 (.mv (.t 1)) 31,o1 50 (.mv (.t 2)) 32,o1 51 (.mv (.t 4)) 33,o1 52 (.call 208 [.t 48, .t 49, .t 50, .t 51]) 34,o1 47 (.mv (.t 52)) 35,o1 53 (.ext (.t 47) 0) 36,o1 54 (.ext (.t 47) 1) 37,o1 13 (.mv (.t 53)) 38,o1 14 (.mv (.t 54)) 39]) (.seq (.seq (.reg 40
 2 [o1 55 (.mv (.t 14)) 40,o1 56 (.bin .eql (.t 55) (.k (.int .i64 2))) 41]) (.cond (.t 56) (.seq (.reg
 42 5 [o1 57 (.mv (.t 0)) 42,o1 58 (.mv (.t 1)) 43,o1 59 (.mv (.t 2)) 44,o1 60 (.mv (.t 4)) 45,o1 61 (.call 209 [.t 57, .t 58, .t 59, .t 60]) 46]) (.seq (.reg 47 7
 [o1 62 (.mv (.t 2)) 47,o1 63 (.bin .sub (.t 62) (.k (.int .i64 1))) 48,o1 64 (.mv (.t 13)) 49,o1 65 (.mv (.t 1)) 50,o1 66 (.bin .sub (.t 64) (.t 65)) 51,o1 67 (.bin .sub (.t 63) (.t 66)) 52,o1 13 (.mv (.t 67)) 53]) (.reg 54 1 [o1 14 (.mv (.k (.int .i64 1))) 54]))) .skip)) (.seq (.seq (.reg 55 8 [o1 68 (.mv (.t 10)) 55,o1 69 (.mv (.t 68)) 56, .mk (.some 70) (.mv (.t 11)) (.some (69, .true)) 57 .none .false [] .false,o1 71 (.pick (.t 69) (.t 70) (.k (.bool .false))) 58,o1 72 (.mv (.t 71)) 59, .mk (.some 73) (.mv (.t 14)) (.some (72, .true)) 60 .none .false [] .false, .mk (.some 74) (.bin
 .eql (.t 73) (.k (.int .i64 1))) (.some (72, .true)) 61 .none .false [] .false,o1 75 (.pick (.t 72) (.t 74) (.k (.bool .false))) 62]) (.cond
 (.t 75) (.seq (.reg 63 5 [o1 76 (.mv (.t 0)) 63,o1 77 (.mv (.t 1)) 64,o1 78 (.mv (.t 2)) 65,o1 79 (.mv (.t 4)) 66,o1 80 (.call 210 [.t 76, .t 77, .t 78, .t 79]) 67]) (.cond (.t 80) .ret .skip)) .skip)) (.seq (.seq (.draw 68 17 [] [] [o3 81 (.mv (.t 1)) 68,o3 82 (.bin .gtr (.t 81) (.k (.int .i64 0))) 69,o3 83 (.mv (.t 82)) 70, .mk (.some 84) (.mv (.t 4)) (.some (83, .true)) 71 (.some
 []) .true [] .false, .mk (.some 85) (.mv (.t 0)) (.some (83, .true)) 72 (.some []) .true [] .false, .mk (.some 86) (.mv (.t 1)) (.some (83, .true)) 73 (.some []) .true [] .false,
 .mk (.some 87) (.bin .sub (.t 86) (.k (.int .i64 1))) (.some (83, .true)) 74 (.some []) .true [] .false, .mk (.some 88) (.iaddr 6 (.t 85) (.t 87)) (.some (83, .true)) 75 (.some
 []) .true [] .false, .mk (.some 89) (.load 6 .true (.t 88)) (.some (83, .true)) 76 (.some []) .true [] .false, .mk (.some 90) (.mv (.t 0)) (.some (83, .true)) 77 (.some []) .true
 [] .false, .mk (.some 91) (.mv (.t 13)) (.some (83, .true)) 78 (.some []) .true [] .false, .mk (.some 92) (.iaddr 6 (.t 90) (.t 91)) (.some (83, .true)) 79 (.some []) .true []
 .false, .mk (.some 93) (.load 6 .true (.t 92)) (.some (83, .true)) 80 (.some []) .true [] .false, .mk (.some 94) (.callv (.t 84) [.t 89, .t 93]) (.some (83, .true)) 81 (.some [])
 .true [] .false, .mk (.some 95) (.bin .lss (.t 94) (.k (.int .i64 0))) (.some (83, .true)) 82 (.some [81]) .true [] .false, .mk (.some 96) (.un .not (.t 95)) (.some (83, .true))
 83 (.some [81]) .true [] .false, .mk (.some 97) (.pick (.t 83) (.t 96) (.k (.bool .false))) .none 84 (.some [81]) .true [] .false]) (.cond (.t 97) (.seq (.reg 85 7 [o1 98 (.mv (.t 0)) 85,o1 99 (.mv (.t 1)) 86,o1 100 (.mv (.t 2)) 87,o1 101 (.mv (.t 13)) 88,o1 102 (.mv (.t 4)) 89,o1 103 (.call 211 [.t 98, .t 99, .t 100, .t 101, .t 102]) 90,o1 15 (.mv (.t 103)) 91]) (.seq (.reg 92 2 [o1 104 (.mv (.t 15)) 92,o1 1 (.mv (.t 104)) 93]) (.exit 1))) .skip)) (.seq (.reg 94 11 [o1 106 (.mv (.t 0)) 94,o1 107 (.mv (.t 1)) 95,o1 108 (.mv (.t 2)) 96,o1 109 (.mv (.t 13)) 97,o1 110 (.mv (.t 4)) 98,o1 111 (.call 212 [.t 106, .t 107, .t 108, .t 109, .t 110]) 99,o1 105 (.mv (.t 111)) 100,o1 112 (.ext (.t 105) 0) 101,o1 113 (.ext (.t 105) 1) 102,o1 16 (.mv (.t 112)) 103,o1 17 (.mv (.t 113)) 104]) (.seq (.reg 105 2 [o1 114 (.mv (.t 17)) 105,o1 11 (.mv (.t 114)) 106]) (.seq (.reg 107 8 [o1 115 (.mv (.t 16)) 107,o1 116 (.mv (.t 1)) 108,o1 117 (.bin .sub (.t 115) (.t 116)) 109,o1 118 (.mv (.t 2)) 110,o1 119 (.mv (.t 16)) 111,o1 120 (.bin .sub (.t 118) (.t 119)) 112,o1 18 (.mv (.t 117)) 113,o1 19 (.mv (.t 120)) 114]) (.seq (.reg 115 3 [o1 121 (.mv (.t 12)) 115,o1 122 (.bin .quo (.t 121) (.k (.int .i64 8))) 116,o1 20 (.mv (.t 122)) 117]) (.seq (.reg 118 3 [o1 123 (.mv (.t 18)) 118,o1 124 (.mv (.t 19)) 119,o1 125 (.bin .lss (.t 123) (.t 124)) 120]) (.cond (.t 125) (.seq (.reg 121 4 [o1 126 (.mv (.t 18)) 121,o1 127 (.mv (.t 20)) 122,o1 128 (.bin .geq (.t 126) (.t 127)) 123,o1 10 (.mv (.t 128)) 124]) (.seq (.reg 125 6 [o1 129 (.mv (.t 0)) 125,o1 130 (.mv (.t 1)) 126,o1 131 (.mv (.t 16)) 127,o1 132 (.mv (.t 3)) 128,o1 133 (.mv (.t 4)) 129,o1 134 (.call 197 [.t 129, .t 130, .t 131, .t 132, .t 133]) 130]) (.reg 131 3 [o1 135 (.mv (.t 16)) 131,o1 136 (.bin .add (.t 135) (.k (.int .i64 1))) 132,o1 1 (.mv (.t 136)) 133]))) (.seq (.reg
 134 4 [o1 137 (.mv (.t 19)) 134,o1 138 (.mv (.t 20)) 135,o1 139 (.bin .geq (.t 137) (.t 138)) 136,o1 10 (.mv (.t 139)) 137]) (.seq (.reg 138 7 [o1 140 (.mv (.t 0)) 138,o1 141 (.mv (.t 16)) 139,o1 142 (.bin .add (.t 141) (.k (.int .i64 1))) 140,o1 143 (.mv (.t 2)) 141,o1 144 (.mv (.t 3)) 142,o1 145 (.mv (.t 4)) 143,o1 146 (.call 197 [.t 140, .t 142, .t 143, .t 144, .t 145]) 144]) (.reg 145 2 [o1 147 (.mv (.t 16)) 145,
 o1 2 (.mv (.t 147)) 146])))))))))))))))))))))
def rs197:List IRes:=[]
set_option maxRecDepth 100000 in
theorem comp197:Comp Try.prog 197 ir197 rs197 148:=⟨⟨_,_,147,Try.func197,rfl,by kernel_rfl,by kernel_rfl,rfl⟩⟩
theorem body197:HasBody Try.prog 197:=hasBody_of (by kernel_rfl)

def ir198:IC :=
 .seq (.reg 0 1 [o1 2 (.mv (.k (.int .i64 0))) 0]) (.seq (.cond (.k (.bool .false)) (.seq (.reg 1 4 [o1 3 (.mv (.t 0)) 1,o1 4 (.conv .u32 (.t 3)) 2,o1 5 (.call 213 [.t 4]) 3,o1 2 (.mv (.t 5)) 4]) .ret) .skip) (.seq (.reg 5 3 [o1 6 (.mv (.t 0)) 5,o1 7 (.call 214 [.t 6]) 6,o1 2 (.mv (.t 7)) 7]) .ret))
def rs198:List IRes:=[.tmp 2]
set_option maxRecDepth 100000 in
theorem comp198:Comp Try.prog 198 ir198 rs198 8:=⟨⟨_,_,8,Try.func198,rfl,by kernel_rfl,by kernel_rfl,rfl⟩⟩
theorem body198:HasBody Try.prog 198:=hasBody_of (by kernel_rfl)

def ir214:IC :=
 .seq (.reg 0 1 [o1 2 (.mv (.k (.int .i64 0))) 0]) (.seq (.seq (.reg 1 2 [o1 3 (.mv (.t 0)) 1,o1 4 (.bin .geq (.t 3) (.k (.int .u64 4294967296))) 2]) (.cond (.t 4) (.seq (.reg 3 3 [o1 5 (.mv (.t 0)) 3,o1 6 (.pur (.bin .shr 303) [.t 5, .k (.int .u64 32)]) 4,o1 0 (.mv (.t 6)) 5]) (.reg 6 1 [o1 2 (.mv (.k (.int .i64 32))) 6])) .skip)) (.seq (.seq (.reg 7 2 [o1 7 (.mv (.t 0)) 7,o1 8 (.bin .geq (.t 7) (.k (.int .u64 65536))) 8]) (.cond (.t 8) (.seq (.reg 9 3 [o1 9 (.mv (.t 0)) 9,o1 10 (.pur (.bin .shr 303) [.t 9, .k (.int .u64 16)]) 10,o1 0 (.mv (.t 10)) 11]) (.reg 12 3 [o1 11 (.mv (.t 2)) 12,o1 12 (.bin .add (.t 11) (.k (.int .i64 16))) 13,o1 2 (.mv (.t 12)) 14]))
 .skip)) (.seq (.seq (.reg 15 2 [o1 13 (.mv (.t 0)) 15,o1 14 (.bin .geq (.t 13) (.k (.int .u64 256))) 16]) (.cond (.t 14) (.seq (.reg 17 3 [o1 15 (.mv (.t 0)) 17,o1 16 (.pur (.bin .shr 303) [.t 15, .k (.int .u64 8)]) 18,o1 0 (.mv (.t 16)) 19]) (.reg 20 3 [o1 17 (.mv (.t 2)) 20,o1 18 (.bin .add (.t 17) (.k (.int .i64 8))) 21,o1 2 (.mv (.t 18)) 22])) .skip)) (.seq (.reg 23 7 [o1 19 (.mv (.t 2)) 23,o1 20 (.mv (.t 0)) 24,o1 21 (.conv .u8 (.t 20)) 25, .mk (.some
 22) (.pur (.idx 9) [.k (.string (ByteArray.mk (Array.mk [0,1,2,2,3,3,3,3,4,4,4,4,4,4,4,4,5,5,5,5,5,5,5,5,5,5,5,5,5,5,5,5,6,6,6,6,6,6,6,6,6,
 6,6,6,6,6,6,6,6,6,6,6,6,6,6,6,6,6,6,6,6,6,6,6,7,7,7,7,7,7,7,7,7,7,7,7,7,7,7,7,7,7,7,7,7,7,7,7,7,7,7,7,7,7,7,7,7,7,7,7,7,
 7,7,7,7,7,7,7,7,7,7,7,7,7,7,7,7,7,7,7,7,7,7,7,7,7,7,7,8,8,8,8,8,8,8,8,8,8,8,8,8,8,8,8,8,8,8,8,8,8,8,8,8,8,8,8,8,8,8,8,8,
 8,8,8,8,8,8,8,8,8,8,8,8,8,8,8,8,8,8,8,8,8,8,8,8,8,8,8,8,8,8,8,8,8,8,8,8,8,8,8,8,8,8,8,8,8,8,8,8,8,8,8,8,8,8,8,8,8,8,8,8,
 8,8,8,8,8,8,8,8,8,8,8,8,8,8,8,8,8,8,8,8,8,8,8,8,8,8,8,8,8,8,8,8,8,8,8]))), .t 21]) .none 26 .none .false [] .false,o1 23 (.conv .i64 (.t 22)) 27,o1 24 (.bin .add (.t 19) (.t 23)) 28,o1 2 (.mv (.t 24)) 29])
 .ret))))
def rs214:List IRes:=[.tmp 2]
set_option maxRecDepth 100000 in
theorem comp214:Comp Try.prog 214 ir214 rs214 25:=⟨⟨_,_,30,Try.func214,rfl,by kernel_rfl,by kernel_rfl,rfl⟩⟩
theorem body214:HasBody Try.prog 214:=hasBody_of (by kernel_rfl)

def ir205:IC :=
 .seq (.reg 0 3 [o1 10 (.mv (.t 1)) 0,o1 11 (.bin .add (.t 10) (.k (.int .i64 1))) 1,o1 8 (.mv (.t 11)) 2]) (.block 0 (.loop (.seq (.seq (.reg 3 3 [o1 12 (.mv (.t 8)) 3,o1 13 (.mv (.t 2)) 4,o1 14 (.bin .lss (.t 12) (.t 13)) 5]) (.cond (.t 14) .skip (.exit 0))) (.seq (.block 1 (.seq (.reg 6 2 [o1 17 (.mv (.t 8)) 6,o1 9 (.mv (.t 17)) 7]) (.block 2 (.loop (.seq (.seq (.draw 8 17 [] [] [o3 18 (.mv (.t 9)) 8,o3 19 (.mv (.t 1)) 9,o3 20 (.bin .gtr (.t 18) (.t 19)) 10,o3 21 (.mv (.t 20)) 11, .mk (.some 22) (.mv (.t 3)) (.some (21, .true)) 12 (.some []) .true [] .false, .mk (.some 23) (.mv (.t
 0)) (.some (21, .true)) 13 (.some []) .true [] .false, .mk (.some 24) (.mv (.t 9)) (.some (21, .true)) 14 (.some []) .true [] .false, .mk (.some 25) (.iaddr 6 (.t 23) (.t 24))
 (.some (21, .true)) 15 (.some []) .true [] .false, .mk (.some 26) (.load 6 .true (.t 25)) (.some (21, .true)) 16 (.some []) .true [] .false, .mk (.some 27) (.mv (.t 0)) (.some
 (21, .true)) 17 (.some []) .true [] .false, .mk (.some 28) (.mv (.t 9)) (.some (21, .true)) 18 (.some []) .true [] .false, .mk (.some 29) (.bin .sub (.t 28) (.k (.int .i64 1)))
 (.some (21, .true)) 19 (.some []) .true [] .false, .mk (.some 30) (.iaddr 6 (.t 27) (.t 29)) (.some (21, .true)) 20 (.some []) .true [] .false, .mk (.some 31) (.load 6 .true (.t
 30)) (.some (21, .true)) 21 (.some []) .true [] .false, .mk (.some 32) (.callv (.t 22) [.t 26, .t 31]) (.some (21, .true)) 22 (.some []) .true [] .false, .mk (.some 33) (.bin .lss
 (.t 32) (.k (.int .i64 0))) (.some (21, .true)) 23 (.some [22]) .true [] .false, .mk (.some 34) (.pick (.t 21) (.t 33) (.k (.bool .false))) .none 24 (.some [22]) .true [] .false])
 (.cond (.t 34) .skip (.exit 2))) (.seq (.block 3 (.draw 25 18 [] [] [o3 37 (.mv (.t 0)) 25,o3 38 (.mv (.t 9)) 26,o3 39 (.mv (.t 0)) 27,o3 40 (.mv (.t 9)) 28,o3 41 (.bin .sub (.t 40) (.k (.int .i64 1))) 29,o3 42 (.mv (.t 0)) 30,o3 43 (.mv (.t 9)) 31,o3 44 (.bin .sub (.t 43) (.k (.int .i64 1))) 32,o3 45 (.iaddr 6 (.t 42) (.t 44)) 33,o3 46 (.load 6 .true (.t 45)) 34,o3 47 (.mv (.t 0)) 35,o3 48 (.mv (.t 9)) 36,o3 49 (.iaddr 6 (.t 47) (.t 48)) 37,o3 50 (.load 6 .true (.t 49)) 38,o3 51 (.iaddr 6 (.t 37) (.t 38)) 39,o4 (.store 6 (.t 51) (.t 46)) 40,o3 52 (.iaddr 6 (.t 39) (.t 41)) 41,o4 (.store 6 (.t 52) (.t 50)) 42])) (.reg 43 3 [o1 35 (.mv (.t 9)) 43,o1 36 (.bin .sub (.t 35) (.k (.int .i64 1))) 44,o1 9 (.mv (.t 36)) 45]))))))) (.reg 46 3 [o1 15 (.mv (.t 8)) 46,o1 16 (.bin .add (.t 15) (.k (.int .i64 1))) 47,o1 8 (.mv (.t 16)) 48])))))
def rs205:List IRes:=[]
set_option maxRecDepth 100000 in
theorem comp205:Comp Try.prog 205 ir205 rs205 53:=⟨⟨_,_,49,Try.func205,rfl,by kernel_rfl,by kernel_rfl,rfl⟩⟩
theorem body205:HasBody Try.prog 205:=hasBody_of (by kernel_rfl)

end Go.Proofs.Ytefnikpoimaiiaa

namespace Go.Proofs.Ytefnikpoimaiiaa
open Go.Pal
def z1000:List Value:=List.replicate 1000 (.bool false)
def ir30:IC :=
 .seq (.reg 0 4 [o1 6 (.mv (.k (.slice .none 0 0))) 0,o1 7 (.mv (.k (.int .i64 0))) 1,o1 8 (.mv (.k (.int .i64 0))) 2,o1 9 (.mv (.k (.int .i64 0))) 3]) (.seq (.reg 4 10 [o1 18 (.mv (.t 0)) 4,o1 19 (.mv (.t 1)) 5,o1 20 (.mv (.t 2)) 6,o1 21 (.call 58 [.t 18, .t 19, .t 20]) 7,o1 17 (.mv (.t 21)) 8,o1 22 (.ext (.t 17) 0) 9,o1 23 (.ext (.t 17) 1) 10,o1 10 (.alloc 165 [.slice .none 0 0, .slice .none 0 0]) 11,o2 (.store 2 (.t 10) (.t 22)) 12,o1 9 (.mv (.t 23)) 13]) (.seq (.seq (.reg 14 2 [o1 24 (.mv (.t 9)) 14,o1 25 (.bin .neq (.t 24) (.k (.int .i64 0))) 15]) (.cond (.t 25) (.seq (.reg 16 5 [o1 26 (.mv (.t 9)) 16,o1 6 (.mv (.k (.slice .none 0 0))) 17,o1 7 (.mv (.k (.int .i64 0))) 18,o1 8 (.mv (.k (.int .i64 0))) 19,o1 9 (.mv (.t 26)) 20]) .ret) .skip)) (.seq (.reg 21 3 [o1 27 (.bld [(0,1),(1,1)] [.int .i64 0, .int .i64 0] []) 21,o1 11 (.alloc 169 [.int .i64 0, .int .i64 0]) 22,o2 (.store 2 (.t 11) (.t 27)) 23]) (.seq (.seq (.reg 24 3 [o1 28 (.mv (.t 2)) 24,o1 29 (.len (.t 28)) 25,o1 30 (.mv (.k (.int .i64 0))) 26]) (.block 0 (.loop (.seq (.reg 27 1 [o1 31 (.bin .lss (.t 30) (.t 29)) 27]) (.seq (.cond (.t 31) .skip (.exit 0)) (.seq (.block 1 (.seq (.reg 28 4 [o1 32 (.iaddr 2 (.t 28) (.t 30)) 28,o1 33 (.load 2 .true (.t 32)) 29,o1 13 (.alloc 103 [.int .i64 0, .int .i64 0]) 30,o2 (.store 2 (.t 13) (.t 33)) 31]) (.seq (.reg 32 11 [o1 35 (.load 2 .true (.t 10)) 32,o1 36 (.load 2 .true (.t 11)) 33,o1 37 (.load 2 .true (.t 13)) 34,o1 38 (.call 59 [.t 35, .t 36, .t 37]) 35,o1 34 (.mv (.t 38)) 36,o1 39 (.ext (.t 34) 0) 37,o1 40 (.ext (.t 34) 1) 38,o1 14 (.alloc 172 (.slice .none 0 0 :: z1000)) 39,o1 15 (.alloc 172 (.slice .none 0 0 :: z1000)) 40,o2 (.store 1001 (.t 14) (.t 39)) 41,o2 (.store 1001 (.t 15) (.t 40)) 42]) (.seq (.reg 43 5 [o1 41 (.mv (.t 6)) 43,o1 42 (.mv (.t 7)) 44,o1 43 (.bsl 3 1 1 [.int .i64 0] [(0, .t 42)]) 45,o1 44 (.app 3 1 8 (.t 41) (.t 43)) 46,o1 6 (.mv (.t 44)) 47]) (.seq (.draw 48 8 [15,14] [] [o3 45 (.faddr 0 (.t 14)) 48,o3 46 (.load 1 .true (.t 45)) 49,o3 47 (.call 60 [.t 46]) 50,o3 48 (.faddr 0 (.t 15)) 51,o3 49 (.load 1 .true (.t 48)) 52, .mk (.some 50) (.call 60 [.t 49]) .none 53 (.some [50]) .false [] .false, .mk (.some 51) (.mm .true (.t 47)
 (.t 50)) .none 54 (.some [53,50]) .true [] .false, .mk (.some 16) (.mv (.t 51)) .none 55 (.some [50,53]) .true [] .false]) (.seq (.draw 56 17 [15,14] [] [o3 52 (.mv (.t 7)) 56,o3 53 (.mv (.t 16)) 57,o3 54 (.bin .add (.t 52) (.t 53)) 58,o3 55 (.mv (.t 8)) 59,o3 56 (.mv (.t 16)) 60,o3 57 (.bin .mul (.k (.int .i64 2)) (.t 56)) 61,o3 58 (.bin .add (.t 55) (.t 57)) 62,o3 59 (.faddr 0 (.t 14)) 63,o3 60 (.load 1 .true (.t 59)) 64,o3 61 (.call 60 [.t 60]) 65, .mk
 (.some 62) (.bin .sub (.t 58) (.t 61)) .none 66 (.some [65]) .true [] .false,o3 63 (.faddr 0 (.t 15)) 67,o3 64 (.load 1 .true (.t 63)) 68, .mk (.some 65) (.call 60 [.t 64]) .none 69 (.some [65]) .false [] .false, .mk (.some 66) (.bin .sub (.t 62) (.t 65)) .none 70 (.some
 [69,65]) .true [] .false, .mk (.some 7) (.mv (.t 54)) .none 71 (.some [65,69]) .true [] .false, .mk (.some 8) (.mv (.t 66)) .none 72 (.some [65,69]) .true [] .false]) (.reg 73
 12 [o1 67 (.faddr 0 (.t 11)) 73,o1 68 (.load 1 .false (.t 67)) 74,o1 69 (.faddr 0 (.t 13)) 75,o1 70 (.load 1 .false (.t 69)) 76,o1 71 (.bin .add (.t 68) (.t 70)) 77,o1 72 (.faddr 1 (.t 11)) 78,o1 73 (.load 1 .false (.t 72)) 79,o1 74 (.faddr 1 (.t 13)) 80,o1 75 (.load 1 .false (.t 74)) 81,o1 76 (.bin .add (.t 73) (.t 75)) 82,o1 77 (.bld [(0,1),(1,1)] [.int .i64 0, .int .i64 0] [(0, .t 71),(1, .t 76)]) 83,o2 (.store 2 (.t 11) (.t 77)) 84]))))))) (.reg 85 2 [o1 78 (.bin .add (.t 30) (.k (.int .i64 1))) 85,o1 30 (.mv (.t 78)) 86]))))))) (.seq (.reg 87 7 [o1 79 (.mv (.t 6)) 87,o1 80 (.mv (.t 7)) 88,o1 81 (.mv (.t 8)) 89,o1 6 (.mv (.t 79)) 90,o1 7 (.mv (.t 80)) 91,o1 8 (.mv (.t 81)) 92,o1 9 (.mv (.k (.int .i64 0))) 93]) .ret)))))
def rs30:List IRes:=[.tmp 6, .tmp 7, .tmp 8, .tmp 9]
set_option maxRecDepth 100000 in
theorem comp30:Comp Try.prog 30 ir30 rs30 82:=⟨⟨_,_,94,Try.func30,rfl,by kernel_rfl,by kernel_rfl,rfl⟩⟩
theorem body30:HasBody Try.prog 30:=hasBody_of (by kernel_rfl)

def ir59:IC :=
 .seq (.reg 0 5 [o1 3 (.box 165 (.t 0)) 0,o1 4 (.box 169 (.t 1)) 1,o1 5 (.box 103 (.t 2)) 2,o1 6 (.alloc 172 (.slice .none 0 0 :: z1000)) 3,o1 7 (.alloc 172 (.slice .none 0 0 :: z1000)) 4]) (.seq (.draw 5 22 [4,3] [] [o3 8 (.faddr 0 (.t 3)) 5,o3 9 (.load 1 .true (.t 8)) 6,o3 10 (.faddr 0 (.t 4)) 7,o3 11 (.load 1 .false (.t 10)) 8,o3 12 (.faddr 0 (.t 4)) 9,o3 13 (.load 1 .false (.t 12)) 10,o3 14 (.faddr 0 (.t 5)) 11,o3 15 (.load 1 .false (.t 14)) 12,o3 16 (.bin .add (.t 13) (.t 15)) 13,
 o3 17 (.call 90 [.t 9, .t 11, .t 16]) 14,o3 18 (.faddr 1 (.t 3)) 15,o3 19 (.load 1 .true (.t 18)) 16,o3 20 (.faddr 1 (.t 4)) 17,o3 21 (.load 1 .false (.t 20)) 18,o3 22 (.faddr 1 (.t 4)) 19,o3 23 (.load 1 .false (.t 22)) 20,o3 24 (.faddr 1 (.t 5)) 21,o3 25 (.load 1 .false (.t 24)) 22,o3 26 (.bin .add (.t 23) (.t 25)) 23, .mk (.some 27) (.call 90 [.t 19, .t 21, .t 26]) .none 24 (.some [14]) .false [] .false, .mk .none (.store 1001 (.t 6) (.t 17)) .none 25 (.some
 [24,14]) .true [] .false, .mk .none (.store 1001 (.t 7) (.t 27)) .none 26 (.some [14,24]) .true [] .false]) .ret)
def rs59:List IRes:=[.cell 6 1001 .true, .cell 7 1001 .true]
set_option maxRecDepth 100000 in
theorem comp59:Comp Try.prog 59 ir59 rs59 28:=⟨⟨_,_,27,Try.func59,rfl,by kernel_rfl,by kernel_rfl,rfl⟩⟩
theorem body59:HasBody Try.prog 59:=hasBody_of (by kernel_rfl)

def ir90:IC :=
 .seq (.reg 0 2 [o1 3 (.box 163 (.t 0)) 0,o1 6 (.alloc 172 (.slice .none 0 0 :: z1000)) 1]) (.seq (.reg 2
 9 [o1 12 (.faddr 0 (.t 3)) 2,o1 13 (.load 1 .false (.t 12)) 3,o1 14 (.mv (.t 1)) 4,o1 15 (.mv (.t 2)) 5,o1 16 (.slc 2 (.t 13) (.some (.t 14)) (.some (.t 15)) .none) 6,o1 17 (.bld [(0,1)] [.slice .none 0 0] [(0, .t 16)]) 7,o1 18 (.bld [(0,1),(1,1000)] (.slice .none 0 0 :: z1000) [(0, .t 17)]) 8,o1 7 (.alloc 172 (.slice .none 0 0 :: z1000)) 9,o2 (.store 1001 (.t 7) (.t 18)) 10]) (.seq (.seq (.reg 11 5 [o1 19 (.faddr 0 (.t 7)) 11,o1 20 (.faddr 0 (.t 19)) 12,o1 21 (.load 1 .false (.t 20)) 13,o1 22 (.len (.t 21)) 14,o1 23 (.mv (.k (.int .i64 0))) 15]) (.block 0 (.loop (.seq (.reg 16 1 [o1 24 (.bin .lss (.t 23) (.t 22)) 16]) (.seq (.cond (.t 24) .skip (.exit 0))
 (.seq (.block 1 (.seq (.reg 17 4 [o1 25 (.iaddr 2 (.t 21) (.t 23)) 17,o1 26 (.load 2 .true (.t 25)) 18,o1 9 (.alloc 177 [.slice .none 0 0, .int .i64 0]) 19,o2 (.store 2 (.t 9) (.t 26)) 20]) (.seq
 (.reg 21 4 [o1 27 (.faddr 0 (.t 9)) 21,o1 28 (.load 1 .false (.t 27)) 22,o1 29 (.len (.t 28)) 23,o1 30 (.mv (.k (.int .i64 0))) 24]) (.block 2 (.loop (.seq (.reg 25 1 [o1 31 (.bin .lss (.t 30) (.t 29)) 25]) (.seq (.cond (.t 31) .skip (.exit 2)) (.seq (.block 3 (.seq (.reg 26 3 [o1 32 (.iaddr 1 (.t 28) (.t 30)) 26,o1 33 (.load 1 .false (.t 32)) 27,o1 11 (.mv (.t 33)) 28]) (.reg 29 4 [o1 34 (.mv (.t 11)) 29,o1 35 (.faddr 1 (.t 7)) 30,o1 36 (.aaddr 1 1000 (.t 35) (.t 34)) 31,o2 (.store 1 (.t 36) (.k (.bool .true))) 32]))) (.reg 33 2 [o1 37 (.bin .add (.t 30) (.k (.int .i64 1))) 33,o1 30 (.mv (.t 37)) 34]))))))))) (.reg 35 2 [o1 38 (.bin .add (.t 23) (.k (.int .i64 1))) 35,o1 23 (.mv (.t 38)) 36]))))))) (.seq (.reg 37 2 [o1 39 (.load 1001 .true (.t 7)) 37,
 o2 (.store 1001 (.t 6) (.t 39)) 38]) .ret)))
def rs90:List IRes:=[.cell 6 1001 .true]
set_option maxRecDepth 100000 in
theorem comp90:Comp Try.prog 90 ir90 rs90 40:=⟨⟨_,_,39,Try.func90,rfl,by kernel_rfl,by kernel_rfl,rfl⟩⟩
theorem body90:HasBody Try.prog 90:=hasBody_of (by kernel_rfl)

def ir5:IC :=
 .seq (.reg 1000 1 [o1 4 (.mv (.k (.bool .false))) 1000]) (.seq (.seq (.reg 1001 8 [o1 18 (.mv (.t 0)) 1001,o1 19 (.call 27 [.t 18, .k (.slice .none 0 0)]) 1002,o1 20 (.un .not (.t 19)) 1003,o1 21 (.mv (.t 20)) 1004, .mk (.some 22) (.mv (.t 0)) (.some (21, .false)) 1005 .none .false [] .false, .mk (.some 23) (.call 28 [.t 22, .k (.slice
 .none 0 0)]) (.some (21, .false)) 1006 .none .false [] .false, .mk (.some 24) (.bin .neq (.t 23) (.k (.int .i64 0))) (.some (21, .false)) 1007 .none .false [] .false,o1 25 (.pick (.t 21) (.k (.bool .true)) (.t 24)) 1008]) (.cond (.t 25) (.seq (.reg 1009 2 [o1 26 (.call 29 []) 1009,o1 4 (.mv (.t 26)) 1010]) .ret) .skip)) (.seq (.reg 1011 9 [o1 27 (.mv (.t 1)) 1011,o1 28 (.conv .i64 (.t 27)) 1012,o1 29 (.bin .rem (.t 28) (.k (.int .i64 60))) 1013,o1 30 (.bin .add (.k (.int .i64 1)) (.t 29)) 1014,o1 31 (.bld [(0,1),(1,1)] [.int .i64 0, .slice .none 0 0] []) 1015,o1 32 (.bsl 93 2 1 [.int .i64 0, .slice .none 0 0] [(0, .t 31)]) 1016,o1 33 (.bld [(0,1),(1,1),(2,1),(3,1),(4,1)] [.int .i64 0, .int .i64 0, .int .i64 0, .int .i64 0, .slice .none 0 0] [(0, .k (.int .i64 1)),(2, .t 30),(3, .k (.int .i64 10)),(4, .t 32)]) 1017,o1 5 (.alloc 96 [.int .i64 0, .int .i64 0, .int .i64 0, .int .i64 0, .slice .none 0 0]) 1018,o2 (.store 5 (.t 5) (.t 33)) 1019]) (.seq (.reg 1020 1 [o1 6 (.mv (.k (.slice .none 0 0))) 1020]) (.seq (.seq (.reg 1021 1 [o1 7 (.mv (.k (.int .i64 0))) 1021]) (.block 0 (.loop (.seq (.seq (.reg 1022 4 [o1 34 (.mv (.t 7)) 1022,o1 35 (.mv (.t 0)) 1023,o1 36 (.len (.t 35)) 1024,o1 37 (.bin .lss (.t 34) (.t 36)) 1025]) (.cond
 (.t 37) .skip (.exit 0))) (.seq (.block 1 (.seq (.seq (.reg 1026 6 [o1 40 (.mv (.t 0)) 1026,o1 41 (.mv (.t 7)) 1027,o1 42 (.iaddr 2 (.t 40) (.t 41)) 1028,o1 43 (.faddr 1 (.t 42)) 1029,o1 44 (.load 1 .false (.t 43)) 1030,o1 45 (.bin .gtr (.t 44) (.k (.int .i64 20))) 1031]) (.cond (.t 45) (.seq (.reg
 1032 2 [o1 46 (.call 29 []) 1032,o1 4 (.mv (.t 46)) 1033]) .ret) .skip)) (.seq (.reg 1034 1 [.mk
 (.some 8) (.mv (.k (.string (ByteArray.mk (Array.mk []))))) .none 1034 .none .false [] .false]) (.seq (.seq (.reg 1035 1 [o1 9 (.mv (.k (.int .i64 0))) 1035]) (.block 2 (.loop (.seq (.seq (.reg 1036 7 [o1 47 (.mv (.t 9)) 1036,o1 48 (.mv (.t 0)) 1037,o1 49 (.mv (.t 7)) 1038,o1 50 (.iaddr 2 (.t 48) (.t 49)) 1039,o1 51 (.faddr 1 (.t 50)) 1040,o1 52 (.load 1 .false (.t 51)) 1041,o1 53 (.bin .lss (.t 47) (.t 52)) 1042]) (.cond (.t 53) .skip (.exit 2))) (.seq (.block 3 (.reg 1043 3 [o1 56 (.mv (.t 8)) 1043, .mk (.some 57) (.pur (.bin .add 9)
 [.t 56, .k (.string (ByteArray.mk (Array.mk [116,101,110,32,98,121,116,101,115,46])))]) .none 1044 .none .false [] .false,o1 8 (.mv (.t 57)) 1045])) (.reg 1046 3 [o1 54 (.mv (.t 9)) 1046,o1 55 (.bin .add (.t 54) (.k (.int .i64 1))) 1047,o1 9 (.mv (.t 55)) 1048])))))) (.seq (.drawd 1049 16 [] [] [] [.none, .some [5], .none, .some [5], .none, .none, .none, .none, .none,
 .none, .none, .none, .none, .none, .none, .none] [(0,o3 58 (.faddr 4 (.t 5)) 1049),(1, .mk (.some 59) (.load 1 .false (.t 58)) .none
 1050 (.some []) .true [0] .false),(2,o3 60 (.faddr 4 (.t 5)) 1051),(3, .mk (.some 61) (.load 1 .false (.t 60)) .none 1052 (.some [])
 .true [2] .false),(4, .mk (.some 62) (.iaddr 2 (.t 61) (.k (.int .i64 0))) .none 1053 (.some []) .true [2,3] .false),(5, .mk (.some 63) (.faddr 1 (.t 62)) .none 1054 (.some [])
 .true [3,2,4] .false),(6, .mk (.some 64) (.load 1 .false (.t 63)) .none 1055 (.some []) .true [4,2,3,5] .false),(7,o3 65 (.mv (.t 7)) 1056),(8, .mk (.some 66) (.bin .add (.t 65) (.k (.int .i64 1))) .none 1057 (.some []) .true [7] .false),(9,o3 67 (.mv (.t 8)) 1058),(10, .mk (.some 68) (.bld [(0,1),(1,1)] [.int .i64 0, .string (ByteArray.mk (Array.mk []))] [(0, .t 66),(1, .t 67)]) .none 1059 (.some []) .true [9,7,8] .false),
 (11, .mk (.some 69) (.bsl 101 2 1 [.int .i64 0, .string (ByteArray.mk (Array.mk []))] [(0, .t 68)]) .none 1060 (.some []) .true [8,7,9,10] .false),(12, .mk (.some 70) (.apph
 101 2 24 (.t 64) (.t 69)) .none 1061 (.some [0,1060]) .true [10,9,7,8,11,5,3,2,4,6] .true),(13, .mk (.some 71) (.iaddr 2 (.t 59) (.k (.int .i64 0))) .none 1062 (.some
 [1060]) .true [12,11,10,9,8,7,6,5,4,3,2,0,1] .false),(14, .mk (.some 72) (.faddr 1 (.t 71)) .none 1063 (.some [1060]) .true [1,0,2,3,4,5,6,7,8,9,10,11,12,
 13] .false),(15, .mk .none (.store 1 (.t 72) (.t 70)) .none 1064 (.some [1060]) .true [13,12,11,10,9,8,7,6,5,4,3,2,0,1,14] .false)]) (.reg 1065 5 [o1 73 (.mv (.t 6)) 1065,o1 74 (.bld [(0,1),(1,1)] [.int .i64 0, .int .i64 0] [(0, .k (.int .i64 1)),(1, .k (.int .i64 1))]) 1066,o1 75 (.bsl 103 2 1 [.int .i64 0, .int .i64 0] [(0, .t 74)]) 1067,o1 76 (.app 103 2 16 (.t 73) (.t 75)) 1068,o1 6 (.mv (.t 76)) 1069])))))) (.reg 1070 3 [o1 38 (.mv (.t 7)) 1070,o1 39 (.bin .add (.t 38) (.k (.int .i64 1))) 1071,o1 7 (.mv (.t 39)) 1072])))))) (.seq (.reg 1073 15 [o1 78 (.mv (.t 0)) 1073,o1 79 (.call 31 [.t 78]) 1074,o1 80 (.mv (.t 0)) 1075,o1 81 (.call 31 [.t 80]) 1076,o1 82 (.mv (.t 6)) 1077,o1 83 (.call 30 [.t 79, .t 81, .t 82]) 1078,o1 77 (.mv (.t 83)) 1079,o1 84 (.ext (.t 77) 0) 1080,
 o1 85 (.ext (.t 77) 1) 1081,o1 86 (.ext (.t 77) 2) 1082,o1 87 (.ext (.t 77) 3) 1083,o1 10 (.mv (.t 84)) 1084,o1 11 (.mv (.t 85)) 1085,o1 12 (.mv (.t 86)) 1086,o1 13 (.mv (.t 87)) 1087]) (.seq (.reg 1088 7 [o1 89 (.load 5 .true (.t 5)) 1088,o1 90 (.call 32 [.t 89, .k (.slice .none 0 0)]) 1089,o1 88 (.mv (.t 90)) 1090,o1 91 (.ext (.t 88) 0) 1091,o1 92 (.ext (.t 88) 1) 1092,o1 14 (.mv (.t 91)) 1093,o1 15 (.mv (.t 92)) 1094]) (.seq (.seq (.reg 1095 24 [o1 93 (.mv (.t 13)) 1095,o1 94 (.bin .neq (.t 93) (.k (.int .i64 0))) 1096,o1 95 (.mv (.t 94)) 1097, .mk (.some 96) (.mv (.t 15))
 (.some (95, .false)) 1098 .none .false [] .false, .mk (.some 97) (.bin .neq (.t 96) (.k (.int .i64 0))) (.some (95, .false)) 1099 .none .false [] .false,o1 98 (.pick (.t 95) (.k (.bool .true)) (.t 97)) 1100,o1 99 (.mv (.t 98)) 1101, .mk (.some 100) (.mv (.t 12)) (.some (99,
 .false)) 1102 .none .false [] .false, .mk (.some 101) (.bin .neq (.t 100) (.k (.int .i64 0))) (.some (99, .false)) 1103 .none .false [] .false,o1 102 (.pick (.t 99) (.k (.bool .true)) (.t 101)) 1104,o1 103 (.mv (.t 102)) 1105, .mk (.some 104) (.mv (.t 10)) (.some (103, .false))
 1106 .none .false [] .false, .mk (.some 105) (.len (.t 104)) (.some (103, .false)) 1107 .none .false [] .false, .mk (.some 106) (.mv (.t 0)) (.some (103, .false)) 1108 .none
 .false [] .false, .mk (.some 107) (.len (.t 106)) (.some (103, .false)) 1109 .none .false [] .false, .mk (.some 108) (.bin .neq (.t 105) (.t 107)) (.some (103, .false)) 1110 .none
 .false [] .false,o1 109 (.pick (.t 103) (.k (.bool .true)) (.t 108)) 1111,o1 110 (.mv (.t 109)) 1112,
 .mk (.some 111) (.mv (.t 14)) (.some (110, .false)) 1113 .none .false [] .false, .mk (.some 112) (.len (.t 111)) (.some (110, .false)) 1114 .none .false [] .false, .mk (.some 113)
 (.mv (.t 0)) (.some (110, .false)) 1115 .none .false [] .false, .mk (.some 114) (.len (.t 113)) (.some (110, .false)) 1116 .none .false [] .false, .mk (.some 115) (.bin .neq (.t
 112) (.t 114)) (.some (110, .false)) 1117 .none .false [] .false,o1 116 (.pick (.t 110) (.k (.bool .true)) (.t 115)) 1118]) (.cond (.t 116)
 (.seq (.reg 1119 1 [o1 4 (.mv (.k (.bool .false))) 1119]) .ret) .skip)) (.seq (.reg 1120 1 [o1 16 (.mv (.k (.int .i64 0))) 1120]) (.seq (.seq (.reg 1121 1 [o1 17 (.mv (.k (.int .i64 0))) 1121]) (.block 4 (.loop (.seq (.seq (.reg 1122 4 [o1 117 (.mv (.t 17)) 1122,o1 118 (.mv (.t 14)) 1123,o1 119 (.len (.t 118)) 1124,o1 120 (.bin .lss (.t 117) (.t 119)) 1125]) (.cond (.t 120) .skip (.exit 4))) (.seq (.block 5 (.seq (.seq (.draw 1126 34 []
 [] [o3 123 (.mv (.t 14)) 1126,o3 124 (.mv (.t 17)) 1127,o3 125 (.iaddr 4 (.t 123) (.t 124)) 1128,o3 126 (.faddr 1 (.t 125)) 1129,o3 127 (.load 1 .false (.t 126)) 1130,o3 128 (.bin .sub (.t 127) (.k (.int .i64 1))) 1131,o3 129 (.faddr 2 (.t 5)) 1132,o3 130 (.load 1 .false (.t 129)) 1133,o3 131 (.bin .mul (.t 128) (.t 130)) 1134,o3 132 (.mv (.t 14)) 1135,o3 133 (.mv (.t 17)) 1136,o3 134 (.iaddr 4 (.t 132) (.t 133)) 1137,o3 135 (.faddr 2 (.t 134)) 1138,o3 136 (.load 1 .false (.t 135)) 1139,o3 137 (.bin .add (.t 131) (.t 136)) 1140,o3 138 (.bin .sub (.t 137) (.k (.int .i64 1))) 1141,o3 139 (.mv (.t 10)) 1142,o3 140 (.mv (.t 17)) 1143,o3 141 (.iaddr 1 (.t 139) (.t 140)) 1144,o3 142 (.load 1 .false (.t 141)) 1145,o3 143 (.bin .neq (.t 138) (.t 142)) 1146,o3 144 (.mv (.t 143)) 1147, .mk (.some 145) (.mv (.t 14)) (.some
 (144, .false)) 1148 (.some []) .true [] .false, .mk (.some 146) (.mv (.t 17)) (.some (144, .false)) 1149 (.some []) .true [] .false, .mk (.some 147) (.iaddr 4 (.t 145) (.t 146))
 (.some (144, .false)) 1150 (.some []) .true [] .false, .mk (.some 148) (.faddr 3 (.t 147)) (.some (144, .false)) 1151 (.some []) .true [] .false, .mk (.some 149) (.load 1 .false
 (.t 148)) (.some (144, .false)) 1152 (.some []) .true [] .false, .mk (.some 150) (.mv (.t 0)) (.some (144, .false)) 1153 (.some []) .true [] .false, .mk (.some 151) (.mv (.t 17))
 (.some (144, .false)) 1154 (.some []) .true [] .false, .mk (.some 152) (.iaddr 2 (.t 150) (.t 151)) (.some (144, .false)) 1155 (.some []) .true [] .false, .mk (.some 153) (.faddr
 1 (.t 152)) (.some (144, .false)) 1156 (.some []) .true [] .false, .mk (.some 154) (.load 1 .false (.t 153)) (.some (144, .false)) 1157 (.some []) .true [] .false, .mk (.some 155)
 (.bin .neq (.t 149) (.t 154)) (.some (144, .false)) 1158 (.some []) .true [] .false,o3 156 (.pick (.t 144) (.k (.bool .true)) (.t 155)) 1159]) (.cond (.t 156) (.seq (.reg 1160 1 [o1 4 (.mv (.k (.bool .false))) 1160]) .ret) .skip)) (.reg 1161 8 [o1 157 (.mv (.t 16)) 1161,o1 158 (.mv (.t 14)) 1162,o1 159 (.mv (.t 17)) 1163,o1 160 (.iaddr 4 (.t 158) (.t 159)) 1164,o1 161 (.faddr 3 (.t 160)) 1165,o1 162 (.load 1 .false (.t 161)) 1166,o1 163 (.bin .add (.t 157) (.t 162)) 1167,o1 16 (.mv (.t 163)) 1168]))) (.reg 1169 3 [o1 121 (.mv (.t 17)) 1169,o1 122 (.bin .add (.t 121) (.k (.int .i64 1))) 1170,o1 17 (.mv (.t 122)) 1171])))))) (.seq (.reg 1172 7 [o1 164 (.mv (.t 16)) 1172,o1 165 (.mv (.t 11)) 1173,o1 166 (.bin .eql (.t 164) (.t 165)) 1174,o1 167 (.mv (.t 166)) 1175, .mk (.some 168) (.call 29 []) (.some (167, .true)) 1176 .none .false [] .false,o1 169 (.pick (.t 167) (.t 168) (.k (.bool .false))) 1177,o1 4 (.mv (.t 169)) 1178]) .ret))))))))))
def rs5:List IRes:=[.tmp 4]
set_option maxRecDepth 100000 in
theorem comp5:CompAt Try.prog 5 1000 ir5 rs5 170:=⟨⟨_,_,1179,Try.func5,rfl,by kernel_rfl,by kernel_rfl,rfl⟩⟩
end Go.Proofs.Ytefnikpoimaiiaa

namespace Go.Pal
open Go.RowKit

abbrev GRel (α:Type):=List Value→Hp→α→Prop

structure GOk {α:Type} (R:GRel α):Prop where
 uniq:∀ args G x y,R args G x→R args G y→x = y
 grow:∀ args G G' x,Grow G G'→R args G x→R args G' x
def gsca {α:Type} (R:GRel α) (q:α→Value→Prop):PSpec:=.sca (fun args G=>∃ x,R args G x) (fun args G v=>∃ x,R args G x∧q x v)
def grel {α:Type} (R:GRel α) (q:α→Value→Hp→Prop):PSpec:=.rel (fun args G=>∃ x,R args G x) (fun args v G'=>∃ x,R args G' x∧q x v G')
def gown {α:Type} (t:TypeId) (k:Nat) (R:GRel α) (q:α→Nat→List Value→Prop):PSpec:=.own t k (fun args G=>∃ x,R args G x) (fun args n vs G'=>∃ x,R args G' x∧q x n vs)

section
variable {P:Program} {f:FuncId} {ic:IC} {rs:List IRes} {nt:Nat} {α:Type} {R:GRel α}

theorem Comp.gsca (C:Comp P f ic rs nt) (T:Tab P) {q:α→Value→Prop} (hn:∀ args G x,R args G x→args.length≤nt) (h:∀ args G x,R args G x→funVC P T.get ic rs args G fun v _=>q x v):Sound P f id (gsca R q) :=
 fun args G W hs ⟨x,hx⟩=>(C.calls T (hn args G x hx) hs (h args G x hx)).mono fun e W' ⟨v,_,h1,h2,_,_,_,h3⟩=>⟨v,h1,⟨x,hx,h2⟩,h3⟩
theorem Comp.grel (C:Comp P f ic rs nt) (T:Tab P) (ok:GOk R) {q:α→Value→Hp→Prop} (hn:∀ args G x,R args G x→args.length≤nt) (hm:∀ x v G G',Grow G G'→q x v G→q x v G') (h:∀ args G x,R args G x→funVC P T.get ic rs args G fun v G'=>q x v G'):Sound P f id (grel R q) :=
 ⟨fun args v G G' hg ⟨x,h1,h2⟩=>⟨x,ok.grow _ _ _ _ hg h1,hm _ _ _ _ hg h2⟩,fun args G W hs ⟨x,hx⟩=>(C.calls T (hn args G x hx) hs (h args G x hx)).mono fun e W' ⟨v,G',h1,h2,h3,h4,h5,h6⟩=>⟨v,G',h1,⟨x,ok.grow _ _ _ _ h3 hx,h2⟩,h3,h4,h5,h6⟩⟩

theorem Comp.gown (C:Comp P f ic rs nt) (T:Tab P) (ok:GOk R) {t:TypeId} {k:Nat} {q:α→Nat→List Value→Prop} (hn:∀ args G x,R args G x→args.length≤nt) (h:∀ args G x,R args G x→ownVC P T.get t k ic rs args G fun n vs _=>q x n vs):Sound P f id (gown t k R q) :=
 ⟨fun args n vs G G' hg ⟨x,h1,h2⟩=>⟨x,ok.grow _ _ _ _ hg h1,h2⟩,fun args G W hs ⟨x,hx⟩=>(C.owns T (hn args G x hx) hs (h args G x hx)).mono fun e W' ⟨v,n,vs,G',h1,h2,h3,h4,h5,h6,h7,h8⟩=>⟨v,n,vs,G',h1,⟨x,ok.grow _ _ _ _ h7 hx,h2⟩,h3,h4,h5,h6,h7,h8⟩⟩
theorem ScaP.g (ok:GOk R) {q:α→Value→Prop} {args:List Value} {G:Hp} {A:Value→Prop} {x:α} (hx:R args G x) (h:∀ v,q x v→W (A v)):ScaP (∃ x,R args G x) (fun v=>∃ x,R args G x∧q x v) A :=
 ⟨⟨x,hx⟩,fun v ⟨y,hy,hq⟩=>h v ((ok.uniq _ _ _ _ hy hx) ▸ hq)⟩
theorem RelP.g (ok:GOk R) {q:α→Value→Hp→Prop} {args:List Value} {Gr G:Hp} {A:Value→Hp→Prop} {x:α} (hx:R args Gr x) (hg:Grow Gr G) (h:∀ v G',Grow G G'→q x v G'→W (A v G')):RelP (∃ x,R args Gr x) G (fun v G'=>∃ x,R args G' x∧q x v G') A :=
 ⟨⟨x,hx⟩,fun v G' hg' ⟨y,hy,hq⟩=>h v G' hg' ((ok.uniq _ _ _ _ hy (ok.grow _ _ _ _ (hg.trans hg') hx)) ▸ hq)⟩
theorem OwnP.g (ok:GOk R) {q:α→Nat→List Value→Prop} {args:List Value} {Gr G:Hp} {A:Nat→List Value→Hp→Prop} {x:α} (hx:R args Gr x) (hg:Grow Gr G) (h:∀ n vs G',Grow G G'→q x n vs→W (A n vs G')):OwnP (∃ x,R args Gr x) G (fun n vs G'=>∃ x,R args G' x∧q x n vs) A :=
 ⟨⟨x,hx⟩,fun n vs G' hg' ⟨y,hy,hq⟩=>h n vs G' hg' ((ok.uniq _ _ _ _ hy (ok.grow _ _ _ _ (hg.trans hg') hx)) ▸ hq)⟩
end

theorem HeadP.of {pb:List Nat} {fr:Nat→SV} {H:Nat→Option OB} {G:Hp} {fl:List (Nat × SV)} {hl:List (Nat × OB)} (π:List (Nat × Option Nat)) (h1:frV π ⟨fr,H,G⟩ fl) (h2:HV π ⟨fr,H,G⟩ hl) (h3:injB π hl = true:=by rfl) (h4:avoid π pb = true:=by rfl) (h5:fr POS = frOf fl POS:=by rfl):HeadP pb ⟨fr,H,G⟩ fl hl:=⟨⟨π,h1,h2,h3,h4⟩,h5⟩
theorem LoopP.of {pb:List Nat} {fr:Nat→SV} {H:Nat→Option OB} {G:Hp} {bd:Nat} {A:(I:Inv)→I.α→Hp→Prop} (I:Inv) (x0:I.α) (h1:HeadP pb ⟨fr,H,G⟩ (I.fr x0) (I.H x0)) (h3:I.ok x0 G)
  (hb:∀ x,frBd bd (I.fr x) = true∧HBd bd (I.H x) = true) (hr:∀ x G',Grow G G'→I.ok x G'→W (A I x G')):LoopP pb ⟨fr,H,G⟩ bd A:=⟨I,⟨x0,h1,h3⟩,hb,hr⟩
theorem RoundP.of {pb:List Nat} {I:Inv} {x:I.α} {fr:Nat→SV} {H:Nat→Option OB} {G:Hp} (x':I.α) (h1:HeadP pb ⟨fr,H,G⟩ (I.fr x') (I.H x')) (h3:I.ok x' G) (h4:I.m x' < I.m x):RoundP pb I x ⟨fr,H,G⟩:=⟨x',h1,h3,h4⟩
theorem RoundR.of {pb:List Nat} {I:RInv} {x:I.α} {fr:Nat→SV} {H:Nat→Option OB} {G:Hp} (x':I.α) (π:List (Nat × Option Nat)) (h2:HV π ⟨fr,H,G⟩ (I.H x')) (h3:I.ok x' G) (h4:I.k x' = I.k x + 1) (h5:injB π (I.H x') = true:=by rfl) (h6:avoid π pb = true:=by rfl):RoundR pb I x ⟨fr,H,G⟩:=⟨x',⟨π,h2,h5,h6⟩,h3,h4⟩
theorem RangeP.of {P:Program} {pb:List Nat} {fr:Nat→SV} {H:Nat→Option OB} {G:Hp} {bd np:Nat} {v:Value} {A:(I:RInv)→I.α→List Value→Hp→Prop} {B:(I:RInv)→I.α→Hp→Prop} {pre:Nat→List Value→Hp→List (List Value)→Prop} {post:Bool→Value→Prop} (Ys:List (List Value)) (I:RInv) (x0:I.α) (hs:SoundFn P v (.seq pre post))
  (hpre:∀ l,pre l [.func (.yield l) #[] #[]] G Ys) (hlen:∀ y∈Ys,y.length = np) (h0:I.k x0 = 0) (h1:HeadP pb ⟨fr,H,G⟩ I.fr (I.H x0)) (h2:I.ok x0 G) (hb:frBd bd I.fr = true∧∀ x,HBd bd (I.H x) = true) (hm:∀ x G G',Grow G G'→I.ok x G→I.ok x G')
  (hr:∀ x y G',Grow G G'→I.ok x G'→Ys[I.k x]? = some y→W (A I x y G')) (hd:∀ x G',Grow G G'→I.ok x G'→I.k x = Ys.length→W (B I x G')):RangeP P pb ⟨fr,H,G⟩ bd np v A B :=
 ⟨pre,post,Ys,I,hs,hpre,hlen,⟨x0,h0,h1,h2⟩,hb,hm,hr,hd⟩
theorem SoundFn.of {P:Program} {g:FuncId} {first cap:Array Value} {s:PSpec} (hb:HasBody P g) (hs:Sound P g (fun args=>first.toList++args++cap.toList) s):SoundFn P (.func (.func g) first cap) s:=⟨g,first,cap,rfl,hb,hs⟩

/-! ### Published slices -/

section
variable {α:Type} {k:Nat} {R:Hp→List Value→α→Prop} {G:Hp} {a:Option Addr} {n c:Nat} {l:List α}

theorem SlR.uniq {l':List α} (hR:∀ cs x y,R G cs x→R G cs y→x = y) (h:SlR k R G a n c l) (h':SlR k R G a n c l'):l = l':=by
 apply List.ext_getElem (by rw [h.len,h'.len])
 intro i h1 h2
 obtain ⟨cs,a1,a2,a3⟩:=h.at_ i h1
 obtain ⟨cs',b1,b2,b3⟩:=h'.at_ i h2
 have:=a2.eq b2 (by omega)
 subst this
 exact hR _ _ _ a3 b3
theorem SlR.cells (h:SlR k R G a n c l) {j:Nat} (hj:j < l.length):∃ cs,cs.length = k∧CellsAt G (ab a) (ao a + j * k) cs∧R G cs l[j]:=h.at_ j hj
end

theorem CellsAt.drop {G:Hp} {b off d n:Nat} {cs:List Value} (h:CellsAt G b off cs):CellsAt G b (off + d) ((cs.drop d).take n):=by
 intro j v hj
 rw [List.getElem?_take] at hj
 split at hj
 ·rw [List.getElem?_drop] at hj
  have:=h _ _ hj
  rwa [← Nat.add_assoc] at this
 ·cases hj
theorem RdP.of {G:Hp} {b off n:Nat} {A:List Value→Prop} (cs:List Value) (h1:cs.length = n) (h2:CellsAt G b off cs) (h3:W (A cs)):RdP G b off n A:=⟨cs,h1,h2,h3⟩
end Go.Pal

namespace Go.Pal
open Go.RowKit

abbrev I (n:Int):Value:=.int .i64 n
structure Rd (α:Type) where
 R:Hp→Value→α→Prop
 uniq:∀ {G v x y},R G v x→R G v y→x = y
 grow:∀ {G G' v x},Grow G G'→R G v x→R G' v x
structure El (α:Type) where
 k:Nat
 f:α→List Value
 inj:∀ {x y},f x = f y→x = y
 len:∀ x,(f x).length = k
 one:∀ x, ∀ v∈f x,v.oneCell' = true
def El.R {α:Type} (e:El α) (_:Hp) (cs:List Value) (x:α):Prop:=cs = e.f x
def SlV {α:Type} (e:El α) (G:Hp) (v:Value) (l:List α):Prop:=∃ a n c,v = .slice a n c∧SlR e.k e.R G a n c l∧n≤140737488355328
theorem SlV.uniq {α:Type} {e:El α} {G:Hp} {v:Value} {x y:List α} (h:SlV e G v x) (h':SlV e G v y):x = y:=by
 obtain ⟨a,n,c,rfl,h,_⟩:=h
 obtain ⟨a',n',c',e',h',_⟩:=h'
 cases e'
 exact h.uniq (fun cs x y h1 h2=>e.inj (h1.symm.trans h2)) h'
theorem SlV.grow {α:Type} {e:El α} {G G':Hp} {v:Value} {x:List α} (hg:Grow G G') (h:SlV e G v x):SlV e G' v x:=by
 obtain ⟨a,n,c,rfl,h,hn⟩:=h
 exact ⟨a,n,c,rfl,SlR.grow (G:=G) (G':=G') (fun _ _ h=>h) h hg,hn⟩
def slRd {α:Type} (e:El α):Rd (List α):=⟨SlV e,fun h h'=>h.uniq h',fun hg h=>h.grow hg⟩
def args1 {α:Type} (A:Rd α) (q:α→Prop):GRel α:=fun args G x=>∃ v,args = [v]∧A.R G v x∧q x
def args2 {α β:Type} (A:Rd α) (B:Rd β) (q:α→β→Prop):GRel (α × β):=fun args G x=>∃ v w,args = [v,w]∧A.R G v x.1∧B.R G w x.2∧q x.1 x.2
theorem ok1 {α:Type} (A:Rd α) (q:α→Prop):GOk (args1 A q) :=
 ⟨fun _ _ _ _ ⟨v,h,h1,_⟩ ⟨v',h',h1',_⟩=>by rw [h] at h';cases h';exact A.uniq h1 h1',fun _ _ _ _ hg ⟨v,h,h1,h2⟩=>⟨v,h,A.grow hg h1,h2⟩⟩
theorem ok2 {α β:Type} (A:Rd α) (B:Rd β) (q:α→β→Prop):GOk (args2 A B q) :=
 ⟨fun _ _ x y ⟨v,w,h,h1,h2,_⟩ ⟨v',w',h',h1',h2',_⟩=>by rw [h] at h';cases h';exact Prod.ext (A.uniq h1 h1') (B.uniq h2 h2'),fun _ _ _ _ hg ⟨v,w,h,h1,h2,h3⟩=>⟨v,w,h,A.grow hg h1,B.grow hg h2,h3⟩⟩
theorem SlR.el {α:Type} {e:El α} {G:Hp} {a:Option Addr} {n c:Nat} {l:List α} (h:SlR e.k e.R G a n c l) {i:Nat} (hi:i < l.length):CellsAt G (ab a) (ao a + i * e.k) (e.f l[i]):=by
 obtain ⟨cs,_,h2,h3⟩:=h.at_ i hi
 have h3:cs = e.f l[i]:=h3
 subst h3;exact h2
theorem RdP.at {G:Hp} {b off n:Nat} {A:List Value→Prop} {cs:List Value} (h2:CellsAt G b off cs) (h1:cs.length = n) (h3:W (A cs)):RdP G b off n A:=⟨cs,h1,h2,h3⟩
theorem RdP.sub {G:Hp} {b off d n:Nat} {A:List Value→Prop} {cs:List Value} (h2:CellsAt G b off cs) (h1:((cs.drop d).take n).length = n) (h3:W (A ((cs.drop d).take n))):RdP G b (off + d) n A:=⟨_,h1,h2.drop,h3⟩
theorem RdP.sub2 {G:Hp} {b off d e n:Nat} {A:List Value→Prop} {cs:List Value} (h2:CellsAt G b off cs) (h1:((cs.drop (d + e)).take n).length = n) (h3:W (A ((cs.drop (d + e)).take n))):RdP G b (off + d + e) n A:=⟨_,h1,by rw [Nat.add_assoc];exact h2.drop,h3⟩
theorem RdP.sub3 {G:Hp} {b off d e f n:Nat} {A:List Value→Prop} {cs:List Value} (h2:CellsAt G b off cs) (h1:((cs.drop (d + e + f)).take n).length = n) (h3:W (A ((cs.drop (d + e + f)).take n))):RdP G b (off + d + e + f) n A:=⟨_,h1,by rw [Nat.add_assoc,Nat.add_assoc, ← Nat.add_assoc d];exact h2.drop,h3⟩
theorem EqP.at {l:List Value} {n:Nat} {A:List Value→Prop} (h1:l.length = n) (h3:W (A l)):EqP l n A:=⟨l,rfl,h1,h3⟩

theorem SlR.all {α:Type} {e:El α} {G:Hp} {a:Option Addr} {n c:Nat} {l:List α} (h:SlR e.k e.R G a n c l):CellsAt G (ab a) (ao a) (l.map e.f).flatten∧(l.map e.f).flatten.length = n * e.k∧∀ v∈(l.map e.f).flatten,v.oneCell' = true:=by
 have hl:∀ l:List α,(l.map e.f).flatten.length = l.length * e.k:=by
  intro l
  induction l with
  | nil=>simp
  | cons x r ih=>simp only [List.map_cons,List.flatten_cons,List.length_append,ih,e.len,List.length_cons,Nat.add_mul,Nat.one_mul];omega
 have hat:∀ (l:List α) (j:Nat) (v:Value),(l.map e.f).flatten[j]? = Option.some v→∃ i, ∃ h:i < l.length, ∃ d,j = i * e.k + d∧(e.f l[i])[d]? = Option.some v:=by
  intro l
  induction l with
  | nil=>intro j v hj;simp at hj
  | cons x r ih =>
   intro j v hj
   simp only [List.map_cons,List.flatten_cons] at hj
   by_cases hlt:j < (e.f x).length
   ·rw [List.getElem?_append_left hlt] at hj
    exact ⟨0,by simp,j,by simp,hj⟩
   ·rw [List.getElem?_append_right (by omega)] at hj
    obtain ⟨i,h,d,h1,h2⟩:=ih _ _ hj
    rw [e.len] at h1 hlt
    exact ⟨i + 1,by simpa using h,d,by rw [Nat.add_mul];omega,by simpa using h2⟩
 refine ⟨fun j v hj=>?_,by rw [hl,h.len],fun v hv=>?_⟩
 ·obtain ⟨i,hi,d,rfl,h2⟩:=hat l j v hj
  have:=h.el hi d v h2
  rwa [Nat.add_assoc] at this
 ·obtain ⟨x,hx,hv⟩:=List.mem_flatten.1 hv
  obtain ⟨y,_,rfl⟩:=List.mem_map.1 hx
  exact e.one y v hv
theorem PubRow.sl {α:Type} {e:El α} {G:Hp} {a:Option Addr} {n c:Nat} {l:List α} {vs:List Value} (h:PubRow G a n c vs) (hv:vs = (l.map e.f).flatten) (hn:l.length = n):SlR e.k e.R G a n c l:=by
 refine ⟨hn,h.cap,h.some,fun i hi=>⟨e.f l[i],e.len _, ?_,rfl⟩⟩
 intro j v hj
 have hlt:j < e.k:=by
  have:=(List.getElem?_eq_some_iff.1 hj).1
  rwa [e.len] at this
 have key:∀ (l:List α) (i:Nat) (hi:i < l.length),(l.map e.f).flatten[i * e.k + j]? = (e.f l[i])[j]?:=by
  intro l
  induction l with
  | nil=>intro i hi;simp at hi
  | cons x r ih =>
   intro i hi
   cases i with
   | zero=>simp only [List.map_cons,List.flatten_cons,Nat.zero_mul,Nat.zero_add,List.getElem_cons_zero];rw [List.getElem?_append_left (by rw [e.len];exact hlt)]
   | succ i =>
    simp only [List.map_cons,List.flatten_cons,List.getElem_cons_succ]
    rw [List.getElem?_append_right (by rw [e.len,Nat.add_mul];omega),e.len,show (i + 1) * e.k + j - e.k = i * e.k + j by rw [Nat.add_mul];omega]
    exact ih i (by simpa using hi)
 have:=h.cells (i * e.k + j) v (by rw [hv,key l i hi];exact hj)
 rwa [← Nat.add_assoc] at this
theorem PubRow.slV {α:Type} {e:El α} {G:Hp} {a:Option Addr} {n c:Nat} {l:List α} {vs:List Value} (h:PubRow G a n c vs) (hv:vs = (l.map e.f).flatten) (hn:l.length = n) (hb:n≤140737488355328):SlV e G (.slice a n c) l:=⟨a,n,c,rfl,h.sl hv hn,hb⟩
structure Row {α:Type} (e:El α) (l:List α) (n:Nat) (vs:List Value):Prop where
 n:n = l.length
 vs:vs = (l.map e.f).flatten
theorem Row.nil {α:Type} {e:El α}:Row e [] 0 []:=⟨rfl,rfl⟩
theorem Row.snoc {α:Type} {e:El α} {l:List α} {n:Nat} {vs us:List Value} (h:Row e l n vs) (x:α) (hu:us = e.f x:=by rfl):Row e (l++[x]) (n + 1) (vs++us):=by
 subst hu;obtain ⟨rfl,rfl⟩:=h;exact ⟨by simp,by simp⟩
theorem Row.len {α:Type} {e:El α} {l:List α} {n:Nat} {vs:List Value} (h:Row e l n vs):vs.length = n * e.k:=by
 obtain ⟨rfl,rfl⟩:=h
 induction l with
 | nil=>simp
 | cons x r ih=>simp only [List.map_cons,List.flatten_cons,List.length_append,ih,e.len,List.length_cons,Nat.add_mul,Nat.one_mul];omega
theorem Row.at {α:Type} {e:El α} {l:List α} {n:Nat} {vs:List Value} (h:Row e l n vs) {i:Nat} (hi:i < l.length):(vs.drop (i * e.k)).take e.k = e.f l[i]:=by
 obtain ⟨rfl,rfl⟩:=h
 induction l generalizing i with
 | nil=>simp at hi
 | cons x r ih =>
  cases i with
  | zero=>simp only [List.map_cons,List.flatten_cons,Nat.zero_mul,List.drop_zero,List.getElem_cons_zero];rw [List.take_append_of_le_length (by rw [e.len];exact Nat.le_refl _),List.take_of_length_le (by rw [e.len];exact Nat.le_refl _)]
  | succ i =>
   simp only [List.map_cons,List.flatten_cons,List.getElem_cons_succ]
   rw [List.drop_append,List.drop_of_length_le (by rw [e.len,Nat.add_mul];omega),List.nil_append,e.len,show (i + 1) * e.k - e.k = i * e.k by rw [Nat.add_mul];omega]
   exact ih (by simpa using hi)
theorem EqP.row {α:Type} {e:El α} {l:List α} {n:Nat} {vs:List Value} (h:Row e l n vs) {i:Nat} (hi:i < l.length) {A:List Value→Prop} (k:W (A (e.f l[i]))):EqP ((vs.drop (i * e.k)).take e.k) e.k A:=⟨_,h.at hi,e.len _,k⟩
theorem Row.pub {α:Type} {e:El α} {G:Hp} {a:Option Addr} {n c:Nat} {l:List α} {vs:List Value} (h:Row e l n vs) (hp:PubRow G a n c vs) (hb:n≤140737488355328):SlV e G (.slice a n c) l:=hp.slV h.vs h.n.symm hb
theorem SlV.nil {α:Type} {e:El α} {G:Hp}:SlV e G (.slice none 0 0) []:=⟨none,0,0,rfl,⟨rfl,Nat.le_refl _,fun h=>absurd rfl h,fun i hi=>by simp at hi⟩,Nat.zero_le _⟩
theorem pur_sl_nil {P:Program} {t e:TypeId} (h:P.underlying t = some (.slice e)) (a:Option Addr) (n c n' c':Nat):∀ w,((POp.bin .eql t).sem [.slice a n c, .slice none n' c']).run P w = .ok (.bool a.isNone) w:=fun w=>by
 have e1:(POp.bin .eql t).sem [.slice a n c, .slice none n' c'] = (do eqGuard .eql t (.tmp 0) (.tmp 0) (.slice a n c) (.slice none n' c');binOp .eql t (.slice a n c) (.slice none n' c')):=rfl
 have e2:eqGuard .eql t (.tmp 0) (.tmp 0) (.slice a n c) (.slice none n' c') = pure ():=rfl
 rw [e1,e2]
 simp only [pure_bind]
 simp only [binOp]
 simp [Op.equal,Op.maxDepth,Lib.run_equalIn_slice_nil w 9999 t e a n c n' c' h]
theorem PurP.of {P:Program} {s:Sem Value} {A:Value→Prop} (v:Value) (h:∀ w,s.run P w = .ok v w) (k:W (A v)):PurP P s A:=⟨v,h,k⟩
theorem Row.of_all {α:Type} {e:El α} (l:List α) {n:Nat} (h:l.length = n):Row e l n (l.map e.f).flatten:=⟨h.symm,rfl⟩
/-! short names,for the many steps -/
theorem ob {φ A:Prop} (h:φ) (k:A):OblP φ A:=⟨h,⟨k⟩⟩
theorem ble {a b:Nat} (h:Nat.ble a b = true):a≤b:=Nat.le_of_ble_eq_true h
theorem ra {G:Hp} {b off n:Nat} {A:List Value→Prop} {cs:List Value} (h2:CellsAt G b off cs) (h1:cs.length = n) (h3:A cs):RdP G b off n A:=RdP.at h2 h1 (W.mk h3)
theorem rb {G:Hp} {b off d n:Nat} {A:List Value→Prop} {cs:List Value} (h2:CellsAt G b off cs) (h1:((cs.drop d).take n).length = n) (h3:A ((cs.drop d).take n)):RdP G b (off + d) n A:=RdP.sub h2 h1 (W.mk h3)
theorem rc {G:Hp} {b off d e n:Nat} {A:List Value→Prop} {cs:List Value} (h2:CellsAt G b off cs) (h1:((cs.drop (d + e)).take n).length = n) (h3:A ((cs.drop (d + e)).take n)):RdP G b (off + d + e) n A:=RdP.sub2 h2 h1 (W.mk h3)
theorem rd {G:Hp} {b off d e f n:Nat} {A:List Value→Prop} {cs:List Value} (h2:CellsAt G b off cs) (h1:((cs.drop (d + e + f)).take n).length = n) (h3:A ((cs.drop (d + e + f)).take n)):RdP G b (off + d + e + f) n A:=RdP.sub3 h2 h1 (W.mk h3)
end Go.Pal

namespace Go.Pal
open Go.RowKit

section
variable {P:Program}
end
end Go.Pal

namespace Go.Pal
open Go

theorem eq2_run {P : Program} {t e : TypeId} (hu : (match P.underlying t with | some (.struct _) => true | _ => false) = true) (hf : (P.fieldsOf t).toList.map (fun f => (f.type, f.offset)) = [(e, 0), (e, 1)]) (hn : (P.fieldsOf t).toList.all (fun f => f.name != "_") = true) (he : P.underlying e = some (.int .i64)) (hz : szT P e = some 1)
  (hs:P.stoodInHeld t = false) (w:World) (a b c d:Int):(Op.equalIn 10000 t (.agg #[I a,I b]) (.agg #[I c,I d])).run P w = .ok (decide (a = c∧b = d)) w:=by
 have hS:P.underlying t = some (.struct (P.fieldsOf t)):=by
  unfold Program.fieldsOf
  cases hx:P.underlying t with
  | none=>rw [hx] at hu;cases hu
  | some u=>cases u<;>first | rfl | (rw [hx] at hu;cases hu)
 rw [show (10000:Nat) = 9999 + 1 from rfl,run_equalIn_struct w 9999 t _ _ hS hs]
 generalize (P.fieldsOf t).toList = fs at hf hn
 have hag:aggT P e = some false:=by simp [aggT,he]
 have hsz:=run_sizeOf' (P:=P) (W:=w) (t:=e) (n:=1) hz
 have hgg:=run_isAgg' (P:=P) (W:=w) (t:=e) (g:=false) hag
 obtain ⟨f1,f2,rfl⟩:∃ f1 f2,fs = [f1,f2]:=by
  have hl:=congrArg List.length hf
  simp only [List.length_map,List.length_cons,List.length_nil] at hl
  cases fs with
  | nil=>cases hl
  | cons f1 fs =>
   cases fs with
   | nil=>cases hl
   | cons f2 fs =>
    cases fs with
    | nil=>exact ⟨f1,f2,rfl⟩
    | cons f3 fs=>simp at hl
 ·
  simp only [List.map_cons,List.map_nil,List.cons.injEq,Prod.mk.injEq,and_true] at hf
  obtain ⟨⟨t1,o1⟩,t2,o2⟩:=hf
  simp only [List.all_cons,List.all_nil,Bool.and_true,Bool.and_eq_true,bne_iff_ne,ne_eq] at hn
  have he1:=fun a b=>run_equalIn_int (P:=P) w 9998 e .i64 .i64 a b he
  simp only [Op.eqFields,t1,o1,t2,o2,hn.1,hn.2,ne_eq,not_false_eq_true,if_true]
  simp [part,hsz,hgg,he1,Result.andThen]
  by_cases h1:a = c
  ·subst h1
   by_cases h2:b = d
   ·subst h2;simp [he1]
   ·simp [he1,h2]
  ·simp [h1]
theorem pur_eq2 {P : Program} {t e : TypeId} (hu : (match P.underlying t with | some (.struct _) => true | _ => false) = true) (hf : (P.fieldsOf t).toList.map (fun f => (f.type, f.offset)) = [(e, 0), (e, 1)]) (hn : (P.fieldsOf t).toList.all (fun f => f.name != "_") = true) (he : P.underlying e = some (.int .i64)) (hz : szT P e = some 1)
  (hs:P.stoodInHeld t = false) (hg:P.eqGuardType P.depth t = false) (a b c d:Int):∀ w,((POp.bin .eql t).sem [.agg #[I a,I b], .agg #[I c,I d]]).run P w = .ok (.bool (decide (a = c∧b = d))) w:=fun w=>by
 have e1:(POp.bin .eql t).sem [.agg #[I a,I b], .agg #[I c,I d]] = (do eqGuard .eql t (.tmp 0) (.tmp 0) (.agg #[I a,I b]) (.agg #[I c,I d]);binOp .eql t (.agg #[I a,I b]) (.agg #[I c,I d])):=rfl
 rw [e1]
 simp [run_eqGuard_agg w .eql t _ _ _ _ hg,run_eql_struct,eq2_run hu hf hn he hz hs w,Result.andThen]
end Go.Pal

namespace Go.Pal
open Go
/-! ### A text and a number; three numbers -/
theorem struct_of {P:Program} {t:TypeId} (hu:(match P.underlying t with | some (.struct _)=>true | _=>false) = true):P.underlying t = some (.struct (P.fieldsOf t)):=by
 unfold Program.fieldsOf
 cases hx:P.underlying t with
 | none=>rw [hx] at hu;cases hu
 | some u=>cases u<;>first | rfl | (rw [hx] at hu;cases hu)
end Go.Pal

namespace Go.Pal
open Go.ChangeShapes Go.WideShapes Go.ChangeAt Go.RowKit Go.Joins Go.Deep

abbrev hpOf (W:World):Hp:=fun b=>W.heap[b]?
theorem cell_rd {W:World} {b off:Nat} {v:Value} (h:W.cell? ⟨b,off,none⟩ = some v):rd1 (hpOf W) b off = some v:=by
 unfold World.cell? at h
 unfold rd1 hpOf
 cases hg:W.heap[b]? with
 | none=>simp [hg] at h
 | some o=>cases o<;>simp_all
theorem addr_add (b off k:Nat):(⟨b,off,none⟩:Addr).add k = ⟨b,off + k,none⟩:=by
 unfold Addr.add;split
 ·rename_i h;rw [h];rfl
 ·rfl
structure Cd (α:Type) where
 k:Nat
 R:Hp→List Value→α→Prop
 len:∀ {G cs x},R G cs x→cs.length = k
def cdInt (κ:IntKind):Cd Int:=⟨1,fun _ cs x=>cs = [.int κ x]∧inR κ x,fun h=>by rw [h.1];rfl⟩
def cdBool:Cd Bool:=⟨1,fun _ cs x=>cs = [.bool x],fun h=>by rw [h];rfl⟩
def cdUnit:Cd Unit:=⟨0,fun _ cs _=>cs = [],fun h=>by rw [h];rfl⟩
def cdPair {α β:Type} (A:Cd α) (B:Cd β):Cd (α × β):=⟨A.k + B.k,fun G cs x=>∃ c d,cs = c++d∧A.R G c x.1∧B.R G d x.2,fun ⟨c,d,h,h1,h2⟩=>by rw [h,List.length_append,A.len h1,B.len h2]⟩
def cdSl {α:Type} (A:Cd α):Cd (List α):=⟨1,fun G cs l=>∃ a n c,cs = [.slice a n c]∧SlR A.k A.R G a n c l∧n≤maxLen,fun ⟨_,_,_,h,_⟩=>by rw [h];rfl⟩
def Opens {α:Type} (P:Program) (t:TypeId) (A:Cd α):Prop :=
 P.cellsOf t = A.k∧∀ {H:Type} {enc:TypeId × Value→H} {W:World} {base:Nat} {spare:Nat→Bool} {held:Bool} {fuel:Nat} {cs:List Value} {x:DataW H × List MemPlace},
  DataW.trod enc P W base spare held fuel t cs = some x→∃ y,A.R (hpOf W) cs y
def OpensF {α:Type} (P:Program) (A:Cd α) (fs:List (TypeId × Nat)) (off:Nat):Prop :=
 ∀ {H:Type} {enc:TypeId × Value→H} {W:World} {base:Nat} {spare:Nat→Bool} {held:Bool} {n:Nat} {cs:List Value},
  cs.length = A.k + off→(∀ (i:Nat) (f:TypeId × Nat),fs[i]? = some f→∃ y,DataW.trod enc P W base spare held n f.1 ((cs.drop f.2).take (P.cellsOf f.1)) = some y)→∃ y,A.R (hpOf W) (cs.drop off) y

section
variable {P:Program}
theorem wf_inR {κ:IntKind} {n:Int} (h:(Lit.int κ n).wf = true):inR κ n:=by
 cases κ<;>simp [Lit.wf,IntKind.min,IntKind.max,IntKind.signed,IntKind.bits] at h<;>simp only [inR]<;>omega
theorem Opens.int {t:TypeId} {κ:IntKind} (ht:P.underlying t = some (.int κ)) (hk:P.cellsOf t = 1:=by kernel_rfl):Opens P t (cdInt κ):=⟨hk,fun h=>by
 obtain ⟨n,h1,_,h2⟩:=DataW.trod_int ht h
 exact ⟨n,h1,wf_inR h2⟩⟩
theorem Opens.bool {t:TypeId} (ht:P.underlying t = some .bool) (hk:P.cellsOf t = 1:=by kernel_rfl):Opens P t cdBool:=⟨hk,fun h=>by
 obtain ⟨n,h1,_⟩:=DataW.trod_bool ht h
 exact ⟨n,h1⟩⟩
theorem OpensF.nil {off:Nat}:OpensF P cdUnit [] off:=fun hl _=>⟨(),by
 have hl:_ = 0 + off:=hl
 show List.drop _ _ = []
 rw [List.drop_of_length_le (by omega)]⟩
theorem OpensF.cons {α β:Type} {A:Cd α} {B:Cd β} {t:TypeId} {fs:List (TypeId × Nat)} {off:Nat} (hA:Opens P t A) (hB:OpensF P B fs (off + A.k)):OpensF P (cdPair A B) ((t,off) :: fs) off:=fun {H enc W base spare held n cs} hl hf=>by
 have hl:cs.length = A.k + B.k + off:=hl
 obtain ⟨y0,h0⟩:=hf 0 (t,off) rfl
 obtain ⟨x,hx⟩:=hA.2 h0
 obtain ⟨y,hy⟩:=hB (cs:=cs) (by omega) (fun i f hi=>hf (i + 1) f (by simpa using hi))
 rw [hA.1] at hx
 exact ⟨(x,y),_,_,by rw [← List.drop_drop,List.take_append_drop],hx,hy⟩
def fieldsT (P:Program) (t:TypeId):Option (List (TypeId × Nat)):=match P.underlying t with
 | some (.struct fs)=>some (fs.toList.map fun f=>(f.type,f.offset))
 | _=>none
theorem Opens.struct {α:Type} {t:TypeId} {A:Cd α} {fs:List (TypeId × Nat)} (hf:fieldsT P t = some fs) (hk:P.cellsOf t = A.k) (hA:OpensF P A fs 0):Opens P t A:=⟨hk,fun {H enc W base spare held fuel cs x} h=>by
 unfold fieldsT at hf
 split at hf
 ·rename_i fs' hu
  cases hf
  obtain ⟨xs,n,_,_,hl,hlen,hat⟩:=DataW.trod_struct hu h
  obtain ⟨y,hy⟩:=hA (cs:=cs) (n:=n) (enc:=enc) (W:=W) (base:=base) (spare:=spare) (held:=held) (by rw [hl,hk];rfl) (fun i f hi=>by
   rw [List.getElem?_map] at hi
   obtain ⟨g,hg,rfl⟩:=Option.map_eq_some_iff.1 hi
   have hg':fs'[i]? = some g:=by simpa using hg
   have hlt:i < fs'.size:=(Array.getElem?_eq_some_iff.1 hg').1
   exact ⟨_,(hat i g hg').trans (List.getElem?_eq_getElem (by omega))⟩)
  exact ⟨y,by simpa using hy⟩
 ·cases hf⟩
theorem Opens.slice {α:Type} {t e:TypeId} {A:Cd α} (ht:P.underlying t = some (.slice e)) (hA:Opens P e A) (h1:1≤A.k) (hk:P.cellsOf t = 1:=by kernel_rfl):Opens P t (cdSl A):=⟨hk,fun {H enc W base spare held fuel cs x} h=>by
 rcases open_slice ht h with h0 | ⟨a,len,cap,m,n,D,Pl,hcs,hb,hl,hm,hmm,hx,hi⟩
 ·exact ⟨[],none,0,0,h0.1,⟨rfl,Nat.le_refl _,fun h=>absurd rfl h,fun i hi=>by simp at hi⟩,Nat.zero_le _⟩
 ·have key:∀ i,i < len→∃ (y:α) (cs:List Value),cs.length = A.k∧(∀ j,j < A.k→W.cell? (a.add (i * A.k + j)) = cs[j]?)∧A.R (hpOf W) cs y:=fun i hil=>by
   have him:i < m:=by rw [hmm];split<;>omega
   obtain ⟨cs',hc,ht'⟩:=hi i him
   rw [hA.1] at hc
   obtain ⟨_,hcl,hat⟩:=World.cells?_some hc
   obtain ⟨y,hy⟩:=hA.2 ht'
   refine ⟨y,cs',hcl,fun j hj=>?_,hy⟩
   rw [← hat j hj,Go.Deep.add_add]
  have all:∀ k,k≤len→∃ l:List α,l.length = k∧∀ i (hi:i < l.length), ∃ cs:List Value,cs.length = A.k∧(∀ j,j < A.k→W.cell? (a.add (i * A.k + j)) = cs[j]?)∧A.R (hpOf W) cs l[i]:=fun k=>by
   induction k with
   | zero=>exact fun _=>⟨[],rfl,fun i hi=>by simp at hi⟩
   | succ k ih =>
    intro hk
    obtain ⟨l,hl1,hl2⟩:=ih (by omega)
    obtain ⟨y,cs,hp⟩:=key k (by omega)
    refine ⟨l++[y],by simp [hl1],fun i hi=>?_⟩
    by_cases h:i < l.length
    ·rw [List.getElem_append_left h];exact hl2 i h
    ·have:i = l.length:=by simp at hi;omega
     subst this
     simp only [List.getElem_concat_length]
     rw [hl1];exact ⟨cs,hp⟩
  obtain ⟨l,hl1,hl2⟩:=all len (Nat.le_refl _)
  by_cases hz:len = 0
  ·exact ⟨[],some a,len,cap,hcs,⟨by rw [hz];rfl,hl,fun h=>absurd hz h,fun i hi=>by simp at hi⟩,by omega⟩
  ·obtain ⟨b,off,spot⟩:=a
   obtain ⟨cs0,hc0,hc1,_⟩:=hl2 0 (by omega)
   have hsp:=World.cell?_spot ((hc1 0 (by omega)).trans (List.getElem?_eq_getElem (by omega)))
   have:spot = none:=by simpa [Addr.add] using hsp
   subst this
   refine ⟨l,some ⟨b,off,none⟩,len,cap,hcs,⟨hl1,hl,fun _=>rfl,fun i hi=>?_⟩,by omega⟩
   obtain ⟨cs,q1,q2,q3⟩:=hl2 i hi
   refine ⟨cs,q1,fun j v hj=>?_,q3⟩
   have hlt:j < A.k:=by have:=(List.getElem?_eq_some_iff.1 hj).1;omega
   have:=(q2 j hlt).trans hj
   rw [addr_add] at this
   have:=cell_rd this
   rwa [← Nat.add_assoc] at this⟩

theorem Opens.two {α:Type} {t e:TypeId} {A:Cd α} (ht:P.underlying t = some (.array 2 e)) (hA:Opens P e A) (hk:P.cellsOf t = 2 * A.k):Opens P t (cdPair A (cdPair A cdUnit)):=⟨by rw [hk];show _ = A.k + (A.k + 0);omega,fun {H enc W base spare held fuel cs x} h=>by
 obtain ⟨xs,m,_,_,hlen,hl,hat⟩:=DataW.trod_array ht h
 rw [hk] at hlen
 simp only [hA.1] at hat
 obtain ⟨y0,h0⟩:=hA.2 ((hat 0 (by omega)).trans (List.getElem?_eq_getElem (by omega)))
 obtain ⟨y1,h1⟩:=hA.2 ((hat 1 (by omega)).trans (List.getElem?_eq_getElem (by omega)))
 refine ⟨(y0,y1,()),cs.take A.k,cs.drop A.k,(List.take_append_drop _ _).symm, ?_,cs.drop A.k,[],(List.append_nil _).symm, ?_,rfl⟩
 ·simpa using h0
 ·have h1:=h1
  rw [Nat.one_mul,List.take_of_length_le (by rw [List.length_drop];omega)] at h1
  exact h1⟩
def VR {α:Type} (A:Cd α) (agg:Bool) (G:Hp) (v:Value) (x:α):Prop:=match agg with
 | true=>∃ cs,v = .agg cs∧A.R G cs.toList x
 | false=>A.R G [v] x
theorem Opens.agg {α:Type} {t:TypeId} {A:Cd α} (hA:Opens P t A) {fs:List (TypeId × Nat)} (hf:fieldsT P t = some fs) {r:Reach} {b0:Nat} {v:Value} {H:Type} {enc:TypeId × Value→H} {W:World} {base:Nat} {spare:Nat→Bool} {held:Bool} {d:DataW H} {p:List MemPlace}
  (hv:Value.okWide P W r b0 t v) (h:DataW.Trod enc P W base spare held t v d p):∃ x,VR A true (hpOf W) v x:=by
 unfold fieldsT at hf
 split at hf
 ·rename_i fs' hu
  obtain ⟨cs,rfl,hsz⟩:=okWide_struct hu hv
  obtain ⟨fuel,hf⟩:=h
  obtain ⟨y,hy⟩:=hA.2 hf
  exact ⟨y,cs,rfl,hy⟩
 ·cases hf
def plainT (P:Program) (t:TypeId):Bool:=match P.underlying t with
 | some (.int _)=>true
 | some .bool=>true
 | some .string=>true
 | some (.slice _)=>true
 | _=>false
theorem Opens.one {α:Type} {t:TypeId} {A:Cd α} (hA:Opens P t A) (hp:plainT P t = true) {r:Reach} {b0:Nat} {v:Value} {H:Type} {enc:TypeId × Value→H} {W:World} {base:Nat} {spare:Nat→Bool} {held:Bool} {d:DataW H} {p:List MemPlace}
  (hv:Value.okWide P W r b0 t v) (h:DataW.Trod enc P W base spare held t v d p):∃ x,VR A false (hpOf W) v x:=by
 obtain ⟨fuel,hf⟩:=h
 have hc:v.cells.toList = [v]:=by
  unfold plainT at hp
  split at hp
  ·rename_i hu;obtain ⟨n,rfl⟩:=okWide_int hu hv;rfl
  ·rename_i hu;obtain ⟨n,rfl⟩:=okWide_bool hu hv;rfl
  ·rename_i hu;obtain ⟨n,rfl⟩:=okWide_string hu hv;rfl
  ·rename_i hu;obtain ⟨a,n,c,rfl⟩:=okWide_slice hu hv;rfl
  ·cases hp
 rw [hc] at hf
 exact hA.2 hf
end

/-! ### The frame of a row -/

theorem trodAll_stays {H:Type} {enc:TypeId × Value→H} {P:Program} (hl:laidOutB P = true) {W W':World} (hb:Below W.heap.size W W'):∀ {ts:List TypeId} {vs:List Value} {ds:List (DataW H)} {p:List MemPlace},
  (ts.all fun t=>P.readableRec t && Nat.blt t P.types.size) = true→DataW.TrodAll enc P W 0 (fun _=>true) true ts vs ds p→DataW.TrodAll enc P W' 0 (fun b=>decide (b < W.heap.size)) true ts vs ds p
 | [],vs,ds,p,_,h=>by
  obtain ⟨rfl,rfl,rfl⟩:=trodAll_nil h
  exact trodAll_mk0
 | t :: ts,vs,ds,p,ht,h=>by
  obtain ⟨v,vs',d,ds',p0,q0,rfl,rfl,rfl,h0,r0⟩:=trodAll_cons h
  simp only [List.all_cons,Bool.and_eq_true] at ht
  have lt0:∀ x∈p0,x.block < W.heap.size:=by obtain ⟨m,hm⟩:=h0;exact DataW.trod_lt m _ _ _ hm
  exact trodAll_cons_mk (Below.trod hl ht.1.1 (by simpa [Nat.blt_eq] using ht.1.2) h0 hb lt0) (trodAll_stays hl hb ht.2 r0)
theorem trodAll_dlen {H:Type} {enc:TypeId × Value→H} {P:Program} {W:World} {base:Nat} {spare:Nat→Bool} {held:Bool}:∀ {ts:List TypeId} {vs:List Value} {ds:List (DataW H)} {p:List MemPlace},DataW.TrodAll enc P W base spare held ts vs ds p→ds.length = ts.length
 | [],vs,ds,p,h=>by obtain ⟨_,rfl,_⟩:=trodAll_nil h;rfl
 | t :: ts,vs,ds,p,h=>by
  obtain ⟨v,vs',d,ds',p0,q0,rfl,rfl,rfl,h0,r0⟩:=trodAll_cons h
  simp [trodAll_dlen r0]

theorem law_lifted {C:Checked} {f:FuncId} {fn:Func} {spec:ChangeSpec} {ts:List TypeId} {tb:TypeId} {apart:Bool} {conds:List PathCond} (own:ownKnob C.prog.godebug = none) (noInit:C.prog.inits.idxOf? f = none) (hfn:C.prog.funcs[f]? = some fn) (laid:laidOutB C.prog = true)
  (hp:fn.params.toList = ts) (hr:fn.resultTypes = #[tb]) (ub:C.prog.underlying tb = some .bool) (hread:(ts.all fun t=>C.prog.readableRec t && Nat.blt t C.prog.types.size) = true)
  (hvars:spec.vars = []) (hspec:∀ (H:Type) (ds:List (DataW H)),ds.length = ts.length→spec.fn H ds = { results:=[.lit (.bool true)],args:=ds })
  (hlaw:∀ {H:Type} {enc:TypeId × Value→H} (W:World) (b0:Nat) (args:Array Value) (ds:List (DataW H)) (p:List MemPlace),(∀ (j:Nat) t v,ts[j]? = some t→args[j]? = some v→Value.okWide C.prog W .any b0 t v)→DataW.TrodAll enc C.prog W 0 (fun _=>true) true ts args.toList ds p →
   Calls C.prog f args W fun e W'=>e = .returned (.bool true)∧Below W.heap.size W W')
  {H:Type} {enc:TypeId × Value→H} (os:Os) (started:os.Started)
  (witness:∃ (w:World) (tape:Tape) (i:Input),w.os = os∧(w.forCall tape i).Shaped C.prog∧i.vars = []∧Input.okWide C.prog (w.forCall tape i) .any w.heap.size f i ∧
   spec.pre6 enc C.prog fn conds apart (w.forCall tape i).memory i.args∧({}:Assume).holds C.prog (lone (Frame.enter C.prog f i.args .normal) [] (w.forCall tape i))) :
  ReturnsInHanded {} C os f .any (spec.pre6 enc C.prog fn conds apart) (spec.post enc C.prog fn apart true false false):=by
 refine returnsInHanded_of_change own started noInit hfn witness ?_
 intro W base args ds gs before hval0 hW hcnd _
 have hW':=hW
 obtain ⟨p,q,hA,hV,rfl,hfz,hnd⟩:=hW
 rw [hp] at hA
 rw [hvars] at hV
 obtain ⟨rfl,rfl⟩:=trodVars_none hV
 have hval:∀ (j:Nat) t v,ts[j]? = some t→args[j]? = some v→Value.okWide C.prog W .any base t v:=fun j t v e1 e2=>hval0 j t v (by rw [← hp] at e1;simpa using e1) e2
 refine (hlaw W base args ds p hval hA).mono fun e W' ⟨he,bel⟩=>?_
 subst he
 have hs:=hspec H (ds++[]) (by simpa using trodAll_dlen hA)
 refine ⟨_,rfl,ds,[],_,[],p,[],hW', ?_, ?_, ?_,bel.frame _,fun h=>by cases h⟩
 ·rw [hs,hr]
  exact trodAll_mk1 (shut_bool ub _)
 ·rw [hs,hp,List.append_nil]
  exact trodAll_stays laid bel hread hA
 ·rw [hs,hvars];rfl
end Go.Pal

namespace Go.Pal
open Go.RowKit
theorem below_beneath {W W':World} {m:Nat→Prop} (h:Below W.heap.size W W'):Beneath ⟨W,m,[]⟩ W':=⟨h.os,h.tape,h.output,h.size,fun k hk _=>h.block k hk⟩
theorem monoT_nil {tab:FuncId→Option PSpec}:MonoT tab []:=fun f s h=>by cases h
end Go.Pal
