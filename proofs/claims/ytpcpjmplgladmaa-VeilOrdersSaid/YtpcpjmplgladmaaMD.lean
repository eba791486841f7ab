/- The intermediate forms of functions of the program (printed by a program of mine), each checked against the code. The intermediate forms of functions of the program (printed by a program of mine), each checked against the code. -/
import Derived.Test.YtpcpjmplgladmaaMC
import Derived.Test.YtpcpjmplgladmaaProg
import Derived.KernelRfl
set_option linter.unusedSimpArgs false
set_option linter.unusedVariables false
namespace Go.Proofs.Ytpcpjmplgladmaa
open Go.Pal
def ir13 : IC :=
  .seq (.reg 0 3 [.mk (.some 2) (.box 25 (.t 0)) .none 0 .none .false [] .false, .mk (.some 3) (.box 28 (.t 1)) .none 1 .none .false [] .false, .mk (.some 4) (.mv (.k (.bool .false)))
  .none 2 .none .false [] .false]) (.seq (.seq (.reg 3 1 [.mk (.some 5) (.mv (.k (.int .i64 0))) .none 3 .none .false [] .false]) (.block 0 (.loop (.seq (.seq (.reg 4 5 [.mk (.some
  6) (.mv (.t 5)) .none 4 .none .false [] .false, .mk (.some 7) (.faddr 0 (.t 2)) .none 5 .none .false [] .false, .mk (.some 8) (.load 1 .false (.t 7)) .none 6 .none .false []
  .false, .mk (.some 9) (.len (.t 8)) .none 7 .none .false [] .false, .mk (.some 10) (.bin .lss (.t 6) (.t 9)) .none 8 .none .false [] .false]) (.cond (.t 10) .skip (.exit 0)))
  (.seq (.block 1 (.seq (.reg 9 18 [.mk (.some 13) (.faddr 0 (.t 2)) .none 9 .none .false [] .false, .mk (.some 14) (.load 1 .false (.t 13)) .none 10 .none .false [] .false, .mk
  (.some 15) (.mv (.t 5)) .none 11 .none .false [] .false, .mk (.some 16) (.iaddr 2 (.t 14) (.t 15)) .none 12 .none .false [] .false, .mk (.some 17) (.faddr 0 (.t 16)) .none 13
  .none .false [] .false, .mk (.some 18) (.load 1 .false (.t 17)) .none 14 .none .false [] .false, .mk (.some 19) (.lenS (.t 18)) .none 15 .none .false [] .false, .mk (.some 20)
  (.bin .gtr (.t 19) (.k (.int .i64 25))) .none 16 .none .false [] .false, .mk (.some 21) (.mv (.t 20)) .none 17 .none .false [] .false, .mk (.some 22) (.faddr 0 (.t 2)) (.some (21,
  .false)) 18 .none .false [] .false, .mk (.some 23) (.load 1 .false (.t 22)) (.some (21, .false)) 19 .none .false [] .false, .mk (.some 24) (.mv (.t 5)) (.some (21, .false)) 20
  .none .false [] .false, .mk (.some 25) (.iaddr 2 (.t 23) (.t 24)) (.some (21, .false)) 21 .none .false [] .false, .mk (.some 26) (.faddr 1 (.t 25)) (.some (21, .false)) 22 .none
  .false [] .false, .mk (.some 27) (.load 1 .false (.t 26)) (.some (21, .false)) 23 .none .false [] .false, .mk (.some 28) (.len (.t 27)) (.some (21, .false)) 24 .none .false []
  .false, .mk (.some 29) (.bin .gtr (.t 28) (.k (.int .i64 8))) (.some (21, .false)) 25 .none .false [] .false, .mk (.some 30) (.pick (.t 21) (.k (.bool .true)) (.t 29)) .none 26
  .none .false [] .false]) (.cond (.t 30) (.seq (.reg 27 1 [.mk (.some 4) (.mv (.k (.bool .false))) .none 27 .none .false [] .false]) .ret) .skip))) (.reg 28 3 [.mk (.some 11) (.mv
  (.t 5)) .none 28 .none .false [] .false, .mk (.some 12) (.bin .add (.t 11) (.k (.int .i64 1))) .none 29 .none .false [] .false, .mk (.some 5) (.mv (.t 12)) .none 30 .none .false
  [] .false])))))) (.seq (.reg 31 17 [.mk (.some 31) (.faddr 0 (.t 2)) .none 31 .none .false [] .false, .mk (.some 32) (.load 1 .false (.t 31)) .none 32 .none .false [] .false, .mk
  (.some 33) (.len (.t 32)) .none 33 .none .false [] .false, .mk (.some 34) (.bin .leq (.t 33) (.k (.int .i64 65))) .none 34 .none .false [] .false, .mk (.some 35) (.mv (.t 34))
  .none 35 .none .false [] .false, .mk (.some 36) (.faddr 1 (.t 2)) (.some (35, .true)) 36 .none .false [] .false, .mk (.some 37) (.load 1 .false (.t 36)) (.some (35, .true)) 37
  .none .false [] .false, .mk (.some 38) (.len (.t 37)) (.some (35, .true)) 38 .none .false [] .false, .mk (.some 39) (.bin .leq (.t 38) (.k (.int .i64 15))) (.some (35, .true)) 39
  .none .false [] .false, .mk (.some 40) (.pick (.t 35) (.t 39) (.k (.bool .false))) .none 40 .none .false [] .false, .mk (.some 41) (.mv (.t 40)) .none 41 .none .false [] .false,
  .mk (.some 42) (.faddr 1 (.t 3)) (.some (41, .true)) 42 .none .false [] .false, .mk (.some 43) (.load 1 .false (.t 42)) (.some (41, .true)) 43 .none .false [] .false, .mk (.some
  44) (.len (.t 43)) (.some (41, .true)) 44 .none .false [] .false, .mk (.some 45) (.bin .leq (.t 44) (.k (.int .i64 12))) (.some (41, .true)) 45 .none .false [] .false, .mk (.some
  46) (.pick (.t 41) (.t 45) (.k (.bool .false))) .none 46 .none .false [] .false, .mk (.some 4) (.mv (.t 46)) .none 47 .none .false [] .false]) .ret))
def rs13 : List IRes := [.tmp 4]
set_option maxRecDepth 100000 in
theorem comp13 : Comp Try.prog 13 ir13 rs13 47 := ⟨⟨_, _, 48, Try.func13, rfl, by kernel_rfl, by kernel_rfl, rfl⟩⟩
theorem body13 : HasBody Try.prog 13 := hasBody_of (by kernel_rfl)

def ir16 : IC :=
  .seq (.reg 0 2 [.mk (.some 1) (.box 25 (.t 0)) .none 0 .none .false [] .false, .mk (.some 2) (.alloc 38 [.slice .none 0 0, .slice .none 0 0, .int .i64 0]) .none 1 .none .false []
  .false]) (.seq (.reg 2 5 [.mk (.some 7) (.faddr 2 (.t 1)) .none 2 .none .false [] .false, .mk (.some 8) (.load 1 .false (.t 7)) .none 3 .none .false [] .false, .mk (.some 9) (.bld
  [(0, 1), (1, 1), (2, 1)] [.slice .none 0 0, .slice .none 0 0, .int .i64 0] [(2, .t 8)]) .none 4 .none .false [] .false, .mk (.some 3) (.alloc 38 [.slice .none 0 0, .slice .none 0
  0, .int .i64 0]) .none 5 .none .false [] .false, .mk .none (.store 3 (.t 3) (.t 9)) .none 6 .none .false [] .false]) (.seq (.seq (.reg 7 1 [.mk (.some 4) (.mv (.k (.int .i64 0)))
  .none 7 .none .false [] .false]) (.block 0 (.loop (.seq (.seq (.reg 8 5 [.mk (.some 10) (.mv (.t 4)) .none 8 .none .false [] .false, .mk (.some 11) (.faddr 0 (.t 1)) .none 9 .none
  .false [] .false, .mk (.some 12) (.load 1 .false (.t 11)) .none 10 .none .false [] .false, .mk (.some 13) (.len (.t 12)) .none 11 .none .false [] .false, .mk (.some 14) (.bin .lss
  (.t 10) (.t 13)) .none 12 .none .false [] .false]) (.cond (.t 14) .skip (.exit 0))) (.seq (.block 1 (.draw 13 20 [] [] [.mk (.some 17) (.faddr 0 (.t 3)) .none 13 (.some []) .true
  [] .false, .mk (.some 18) (.load 1 .false (.t 17)) .none 14 (.some []) .true [] .false, .mk (.some 19) (.faddr 0 (.t 1)) .none 15 (.some []) .true [] .false, .mk (.some 20) (.load
  1 .false (.t 19)) .none 16 (.some []) .true [] .false, .mk (.some 21) (.mv (.t 4)) .none 17 (.some []) .true [] .false, .mk (.some 22) (.iaddr 2 (.t 20) (.t 21)) .none 18 (.some
  []) .true [] .false, .mk (.some 23) (.faddr 0 (.t 22)) .none 19 (.some []) .true [] .false, .mk (.some 24) (.load 1 .false (.t 23)) .none 20 (.some []) .true [] .false, .mk (.some
  25) (.faddr 0 (.t 1)) .none 21 (.some []) .true [] .false, .mk (.some 26) (.load 1 .false (.t 25)) .none 22 (.some []) .true [] .false, .mk (.some 27) (.mv (.t 4)) .none 23 (.some
  []) .true [] .false, .mk (.some 28) (.iaddr 2 (.t 26) (.t 27)) .none 24 (.some []) .true [] .false, .mk (.some 29) (.faddr 1 (.t 28)) .none 25 (.some []) .true [] .false, .mk
  (.some 30) (.load 1 .false (.t 29)) .none 26 (.some []) .true [] .false, .mk (.some 31) (.call 27 [.t 30]) .none 27 (.some []) .true [] .false, .mk (.some 32) (.bld [(0, 1), (1,
  1)] [.string (ByteArray.mk (Array.mk [])), .slice .none 0 0] [(0, .t 24), (1, .t 31)]) .none 28 (.some [27]) .true [] .false, .mk (.some 33) (.bsl 104 2 1 [.string (ByteArray.mk
  (Array.mk [])), .slice .none 0 0] [(0, .t 32)]) .none 29 (.some [27]) .true [] .false, .mk (.some 34) (.app 104 2 40 (.t 18) (.t 33)) .none 30 (.some [27, 29]) .false [] .false,
  .mk (.some 35) (.faddr 0 (.t 3)) .none 31 (.some [30, 29, 27]) .true [] .false, .mk .none (.store 1 (.t 35) (.t 34)) .none 32 (.some [27, 29, 30]) .true [] .false])) (.reg 33 3
  [.mk (.some 15) (.mv (.t 4)) .none 33 .none .false [] .false, .mk (.some 16) (.bin .add (.t 15) (.k (.int .i64 1))) .none 34 .none .false [] .false, .mk (.some 4) (.mv (.t 16))
  .none 35 .none .false [] .false])))))) (.seq (.seq (.reg 36 1 [.mk (.some 5) (.mv (.k (.int .i64 0))) .none 36 .none .false [] .false]) (.block 2 (.loop (.seq (.seq (.reg 37 5
  [.mk (.some 36) (.mv (.t 5)) .none 37 .none .false [] .false, .mk (.some 37) (.faddr 1 (.t 1)) .none 38 .none .false [] .false, .mk (.some 38) (.load 1 .false (.t 37)) .none 39
  .none .false [] .false, .mk (.some 39) (.len (.t 38)) .none 40 .none .false [] .false, .mk (.some 40) (.bin .lss (.t 36) (.t 39)) .none 41 .none .false [] .false]) (.cond (.t 40)
  .skip (.exit 2))) (.seq (.block 3 (.seq (.reg 42 7 [.mk (.some 43) (.faddr 1 (.t 1)) .none 42 .none .false [] .false, .mk (.some 44) (.load 1 .false (.t 43)) .none 43 .none .false
  [] .false, .mk (.some 45) (.mv (.t 5)) .none 44 .none .false [] .false, .mk (.some 46) (.iaddr 4 (.t 44) (.t 45)) .none 45 .none .false [] .false, .mk (.some 47) (.load 4 .true
  (.t 46)) .none 46 .none .false [] .false, .mk (.some 6) (.alloc 90 [.int .i64 0, .int .i64 0, .int .i64 0, .int .i64 0]) .none 47 .none .false [] .false, .mk .none (.store 4 (.t
  6) (.t 47)) .none 48 .none .false [] .false]) (.reg 49 15 [.mk (.some 48) (.faddr 1 (.t 3)) .none 49 .none .false [] .false, .mk (.some 49) (.load 1 .false (.t 48)) .none 50 .none
  .false [] .false, .mk (.some 50) (.faddr 0 (.t 6)) .none 51 .none .false [] .false, .mk (.some 51) (.load 1 .false (.t 50)) .none 52 .none .false [] .false, .mk (.some 52) (.faddr
  1 (.t 6)) .none 53 .none .false [] .false, .mk (.some 53) (.load 1 .false (.t 52)) .none 54 .none .false [] .false, .mk (.some 54) (.faddr 2 (.t 6)) .none 55 .none .false []
  .false, .mk (.some 55) (.load 1 .false (.t 54)) .none 56 .none .false [] .false, .mk (.some 56) (.faddr 3 (.t 6)) .none 57 .none .false [] .false, .mk (.some 57) (.load 1 .false
  (.t 56)) .none 58 .none .false [] .false, .mk (.some 58) (.bld [(0, 1), (1, 1), (2, 1), (3, 1)] [.int .i64 0, .int .i64 0, .int .i64 0, .int .i64 0] [(0, .t 51), (1, .t 53), (2,
  .t 55), (3, .t 57)]) .none 59 .none .false [] .false, .mk (.some 59) (.bsl 65 4 1 [.int .i64 0, .int .i64 0, .int .i64 0, .int .i64 0] [(0, .t 58)]) .none 60 .none .false []
  .false, .mk (.some 60) (.app 65 4 32 (.t 49) (.t 59)) .none 61 .none .false [] .false, .mk (.some 61) (.faddr 1 (.t 3)) .none 62 .none .false [] .false, .mk .none (.store 1 (.t
  61) (.t 60)) .none 63 .none .false [] .false]))) (.reg 64 3 [.mk (.some 41) (.mv (.t 5)) .none 64 .none .false [] .false, .mk (.some 42) (.bin .add (.t 41) (.k (.int .i64 1)))
  .none 65 .none .false [] .false, .mk (.some 5) (.mv (.t 42)) .none 66 .none .false [] .false])))))) (.seq (.reg 67 2 [.mk (.some 62) (.load 3 .true (.t 3)) .none 67 .none .false
  [] .false, .mk .none (.store 3 (.t 2) (.t 62)) .none 68 .none .false [] .false]) .ret))))
def rs16 : List IRes := [.cell 2 3 .true]
set_option maxRecDepth 100000 in
theorem comp16 : Comp Try.prog 16 ir16 rs16 63 := ⟨⟨_, _, 69, Try.func16, rfl, by kernel_rfl, by kernel_rfl, rfl⟩⟩
theorem body16 : HasBody Try.prog 16 := hasBody_of (by kernel_rfl)

def ir17 : IC :=
  .seq (.reg 0 2 [.mk (.some 1) (.box 28 (.t 0)) .none 0 .none .false [] .false, .mk (.some 2) (.alloc 40 [.int .i64 0, .slice .none 0 0]) .none 1 .none .false [] .false]) (.seq
  (.draw 2 7 [1] [] [.mk (.some 3) (.faddr 0 (.t 1)) .none 2 (.some []) .true [] .false, .mk (.some 4) (.load 1 .false (.t 3)) .none 3 (.some []) .true [] .false, .mk (.some 5)
  (.faddr 1 (.t 1)) .none 4 (.some []) .true [] .false, .mk (.some 6) (.load 1 .false (.t 5)) .none 5 (.some []) .true [] .false, .mk (.some 7) (.call 27 [.t 6]) .none 6 (.some [])
  .true [] .false, .mk (.some 8) (.bld [(0, 1), (1, 1)] [.int .i64 0, .slice .none 0 0] [(0, .t 4), (1, .t 7)]) .none 7 (.some [6]) .true [] .false, .mk .none (.store 2 (.t 2) (.t
  8)) .none 8 (.some [6]) .true [] .false]) .ret)
def rs17 : List IRes := [.cell 2 2 .true]
set_option maxRecDepth 100000 in
theorem comp17 : Comp Try.prog 17 ir17 rs17 9 := ⟨⟨_, _, 9, Try.func17, rfl, by kernel_rfl, by kernel_rfl, rfl⟩⟩
theorem body17 : HasBody Try.prog 17 := hasBody_of (by kernel_rfl)

def ir18 : IC :=
  .seq (.reg 0 3 [.mk (.some 2) (.box 25 (.t 0)) .none 0 .none .false [] .false, .mk (.some 3) (.box 28 (.t 1)) .none 1 .none .false [] .false, .mk (.some 4) (.mv (.k (.int .i64 0)))
  .none 2 .none .false [] .false]) (.seq (.seq (.reg 3 3 [.mk (.some 6) (.load 3 .true (.t 2)) .none 3 .none .false [] .false, .mk (.some 7) (.call 32 [.t 6]) .none 4 .none .false
  [] .false, .mk (.some 5) (.mv (.t 7)) .none 5 .none .false [] .false]) (.seq (.reg 6 2 [.mk (.some 8) (.mv (.t 5)) .none 6 .none .false [] .false, .mk (.some 9) (.bin .neq (.t 8)
  (.k (.int .i64 0))) .none 7 .none .false [] .false]) (.cond (.t 9) (.seq (.reg 8 2 [.mk (.some 10) (.mv (.t 5)) .none 8 .none .false [] .false, .mk (.some 4) (.mv (.t 10)) .none 9
  .none .false [] .false]) .ret) .skip))) (.seq (.seq (.reg 10 3 [.mk (.some 11) (.load 2 .true (.t 3)) .none 10 .none .false [] .false, .mk (.some 12) (.call 49 [.t 11]) .none 11
  .none .false [] .false, .mk (.some 13) (.un .not (.t 12)) .none 12 .none .false [] .false]) (.cond (.t 13) (.seq (.reg 13 1 [.mk (.some 4) (.mv (.k (.int .i64 2))) .none 13 .none
  .false [] .false]) .ret) .skip)) (.seq (.reg 14 1 [.mk (.some 4) (.mv (.k (.int .i64 0))) .none 14 .none .false [] .false]) .ret)))
def rs18 : List IRes := [.tmp 4]
set_option maxRecDepth 100000 in
theorem comp18 : Comp Try.prog 18 ir18 rs18 14 := ⟨⟨_, _, 15, Try.func18, rfl, by kernel_rfl, by kernel_rfl, rfl⟩⟩
theorem body18 : HasBody Try.prog 18 := hasBody_of (by kernel_rfl)

def ir20 : IC :=
  .seq (.reg 0 1 [.mk (.some 4) (.mv (.k (.bool .false))) .none 0 .none .false [] .false]) (.seq (.seq (.reg 1 5 [.mk (.some 6) (.mv (.t 0)) .none 1 .none .false [] .false, .mk (.some
  7) (.len (.t 6)) .none 2 .none .false [] .false, .mk (.some 8) (.mv (.t 1)) .none 3 .none .false [] .false, .mk (.some 9) (.len (.t 8)) .none 4 .none .false [] .false, .mk (.some
  10) (.bin .neq (.t 7) (.t 9)) .none 5 .none .false [] .false]) (.cond (.t 10) (.seq (.reg 6 1 [.mk (.some 4) (.mv (.k (.bool .false))) .none 6 .none .false [] .false]) .ret)
  .skip)) (.seq (.seq (.reg 7 1 [.mk (.some 5) (.mv (.k (.int .i64 0))) .none 7 .none .false [] .false]) (.block 0 (.loop (.seq (.seq (.reg 8 4 [.mk (.some 11) (.mv (.t 5)) .none 8
  .none .false [] .false, .mk (.some 12) (.mv (.t 0)) .none 9 .none .false [] .false, .mk (.some 13) (.len (.t 12)) .none 10 .none .false [] .false, .mk (.some 14) (.bin .lss (.t
  11) (.t 13)) .none 11 .none .false [] .false]) (.cond (.t 14) .skip (.exit 0))) (.seq (.block 1 (.seq (.draw 12 25 [] [] [.mk (.some 17) (.mv (.t 0)) .none 12 (.some []) .true []
  .false, .mk (.some 18) (.mv (.t 5)) .none 13 (.some []) .true [] .false, .mk (.some 19) (.iaddr 2 (.t 17) (.t 18)) .none 14 (.some []) .true [] .false, .mk (.some 20) (.faddr 0
  (.t 19)) .none 15 (.some []) .true [] .false, .mk (.some 21) (.load 1 .false (.t 20)) .none 16 (.some []) .true [] .false, .mk (.some 22) (.mv (.t 1)) .none 17 (.some []) .true []
  .false, .mk (.some 23) (.mv (.t 5)) .none 18 (.some []) .true [] .false, .mk (.some 24) (.iaddr 2 (.t 22) (.t 23)) .none 19 (.some []) .true [] .false, .mk (.some 25) (.faddr 0
  (.t 24)) .none 20 (.some []) .true [] .false, .mk (.some 26) (.load 1 .false (.t 25)) .none 21 (.some []) .true [] .false, .mk (.some 27) (.bin .neq (.t 21) (.t 26)) .none 22
  (.some []) .true [] .false, .mk (.some 28) (.mv (.t 27)) .none 23 (.some []) .true [] .false, .mk (.some 29) (.mv (.t 0)) (.some (28, .false)) 24 (.some []) .true [] .false, .mk
  (.some 30) (.mv (.t 5)) (.some (28, .false)) 25 (.some []) .true [] .false, .mk (.some 31) (.iaddr 2 (.t 29) (.t 30)) (.some (28, .false)) 26 (.some []) .true [] .false, .mk
  (.some 32) (.faddr 1 (.t 31)) (.some (28, .false)) 27 (.some []) .true [] .false, .mk (.some 33) (.load 1 .false (.t 32)) (.some (28, .false)) 28 (.some []) .true [] .false, .mk
  (.some 34) (.mv (.t 1)) (.some (28, .false)) 29 (.some []) .true [] .false, .mk (.some 35) (.mv (.t 5)) (.some (28, .false)) 30 (.some []) .true [] .false, .mk (.some 36) (.iaddr
  2 (.t 34) (.t 35)) (.some (28, .false)) 31 (.some []) .true [] .false, .mk (.some 37) (.faddr 1 (.t 36)) (.some (28, .false)) 32 (.some []) .true [] .false, .mk (.some 38) (.load
  1 .false (.t 37)) (.some (28, .false)) 33 (.some []) .true [] .false, .mk (.some 39) (.call 38 [.t 33, .t 38]) (.some (28, .false)) 34 (.some []) .true [] .false, .mk (.some 40)
  (.un .not (.t 39)) (.some (28, .false)) 35 (.some [34]) .true [] .false, .mk (.some 41) (.pick (.t 28) (.k (.bool .true)) (.t 40)) .none 36 (.some [34]) .true [] .false]) (.cond
  (.t 41) (.seq (.reg 37 1 [.mk (.some 4) (.mv (.k (.bool .false))) .none 37 .none .false [] .false]) .ret) .skip))) (.reg 38 3 [.mk (.some 15) (.mv (.t 5)) .none 38 .none .false []
  .false, .mk (.some 16) (.bin .add (.t 15) (.k (.int .i64 1))) .none 39 .none .false [] .false, .mk (.some 5) (.mv (.t 16)) .none 40 .none .false [] .false])))))) (.seq (.reg 41 1
  [.mk (.some 4) (.mv (.k (.bool .true))) .none 41 .none .false [] .false]) .ret)))
def rs20 : List IRes := [.tmp 4]
set_option maxRecDepth 100000 in
theorem comp20 : Comp Try.prog 20 ir20 rs20 42 := ⟨⟨_, _, 42, Try.func20, rfl, by kernel_rfl, by kernel_rfl, rfl⟩⟩
theorem body20 : HasBody Try.prog 20 := hasBody_of (by kernel_rfl)

def ir23 : IC :=
  .seq (.reg 0 3 [.mk (.some 2) (.box 25 (.t 0)) .none 0 .none .false [] .false, .mk (.some 3) (.box 28 (.t 1)) .none 1 .none .false [] .false, .mk (.some 4) (.mv (.k (.bool .false)))
  .none 2 .none .false [] .false]) (.seq (.reg 3 10 [.mk (.some 5) (.load 3 .true (.t 2)) .none 3 .none .false [] .false, .mk (.some 6) (.load 2 .true (.t 3)) .none 4 .none .false
  [] .false, .mk (.some 7) (.call 13 [.t 5, .t 6]) .none 5 .none .false [] .false, .mk (.some 8) (.mv (.t 7)) .none 6 .none .false [] .false, .mk (.some 9) (.load 3 .true (.t 2))
  (.some (8, .true)) 7 .none .false [] .false, .mk (.some 10) (.load 2 .true (.t 3)) (.some (8, .true)) 8 .none .false [] .false, .mk (.some 11) (.call 18 [.t 9, .t 10]) (.some (8,
  .true)) 9 .none .false [] .false, .mk (.some 12) (.bin .eql (.t 11) (.k (.int .i64 0))) (.some (8, .true)) 10 .none .false [] .false, .mk (.some 13) (.pick (.t 8) (.t 12) (.k
  (.bool .false))) .none 11 .none .false [] .false, .mk (.some 4) (.mv (.t 13)) .none 12 .none .false [] .false]) .ret)
def rs23 : List IRes := [.tmp 4]
set_option maxRecDepth 100000 in
theorem comp23 : Comp Try.prog 23 ir23 rs23 14 := ⟨⟨_, _, 13, Try.func23, rfl, by kernel_rfl, by kernel_rfl, rfl⟩⟩
theorem body23 : HasBody Try.prog 23 := hasBody_of (by kernel_rfl)

def ir24 : IC :=
  .seq (.reg 0 1 [.mk (.some 4) (.mv (.k (.bool .false))) .none 0 .none .false [] .false]) (.seq (.seq (.reg 1 1 [.mk (.some 5) (.mv (.k (.int .i64 0))) .none 1 .none .false []
  .false]) (.block 0 (.loop (.seq (.seq (.reg 2 4 [.mk (.some 6) (.mv (.t 5)) .none 2 .none .false [] .false, .mk (.some 7) (.mv (.t 0)) .none 3 .none .false [] .false, .mk (.some
  8) (.len (.t 7)) .none 4 .none .false [] .false, .mk (.some 9) (.bin .lss (.t 6) (.t 8)) .none 5 .none .false [] .false]) (.cond (.t 9) .skip (.exit 0))) (.seq (.block 1 (.seq
  (.reg 6 6 [.mk (.some 12) (.mv (.t 0)) .none 6 .none .false [] .false, .mk (.some 13) (.mv (.t 5)) .none 7 .none .false [] .false, .mk (.some 14) (.iaddr 1 (.t 12) (.t 13)) .none
  8 .none .false [] .false, .mk (.some 15) (.load 1 .false (.t 14)) .none 9 .none .false [] .false, .mk (.some 16) (.mv (.t 1)) .none 10 .none .false [] .false, .mk (.some 17) (.bin
  .eql (.t 15) (.t 16)) .none 11 .none .false [] .false]) (.cond (.t 17) (.seq (.reg 12 1 [.mk (.some 4) (.mv (.k (.bool .true))) .none 12 .none .false [] .false]) .ret) .skip)))
  (.reg 13 3 [.mk (.some 10) (.mv (.t 5)) .none 13 .none .false [] .false, .mk (.some 11) (.bin .add (.t 10) (.k (.int .i64 1))) .none 14 .none .false [] .false, .mk (.some 5) (.mv
  (.t 11)) .none 15 .none .false [] .false])))))) (.seq (.reg 16 1 [.mk (.some 4) (.mv (.k (.bool .false))) .none 16 .none .false [] .false]) .ret))
def rs24 : List IRes := [.tmp 4]
set_option maxRecDepth 100000 in
theorem comp24 : Comp Try.prog 24 ir24 rs24 18 := ⟨⟨_, _, 17, Try.func24, rfl, by kernel_rfl, by kernel_rfl, rfl⟩⟩
theorem body24 : HasBody Try.prog 24 := hasBody_of (by kernel_rfl)

def ir27 : IC :=
  .seq (.reg 0 1 [.mk (.some 2) (.mv (.k (.slice .none 0 0))) .none 0 .none .false [] .false]) (.seq (.reg 1 4 [.mk (.some 3) (.bsl 3 1 0 [] []) .none 1 .none .false [] .false, .mk
  (.some 4) (.mv (.t 0)) .none 2 .none .false [] .false, .mk (.some 5) (.app 3 1 8 (.t 3) (.t 4)) .none 3 .none .false [] .false, .mk (.some 2) (.mv (.t 5)) .none 4 .none .false []
  .false]) .ret)
def rs27 : List IRes := [.tmp 2]
set_option maxRecDepth 100000 in
theorem comp27 : Comp Try.prog 27 ir27 rs27 6 := ⟨⟨_, _, 5, Try.func27, rfl, by kernel_rfl, by kernel_rfl, rfl⟩⟩
theorem body27 : HasBody Try.prog 27 := hasBody_of (by kernel_rfl)

def ir29 : IC :=
  .seq (.reg 0 1 [.mk (.some 4) (.mv (.k (.bool .false))) .none 0 .none .false [] .false]) (.seq (.seq (.reg 1 5 [.mk (.some 6) (.mv (.t 0)) .none 1 .none .false [] .false, .mk (.some
  7) (.len (.t 6)) .none 2 .none .false [] .false, .mk (.some 8) (.mv (.t 1)) .none 3 .none .false [] .false, .mk (.some 9) (.len (.t 8)) .none 4 .none .false [] .false, .mk (.some
  10) (.bin .neq (.t 7) (.t 9)) .none 5 .none .false [] .false]) (.cond (.t 10) (.seq (.reg 6 1 [.mk (.some 4) (.mv (.k (.bool .false))) .none 6 .none .false [] .false]) .ret)
  .skip)) (.seq (.seq (.reg 7 1 [.mk (.some 5) (.mv (.k (.int .i64 0))) .none 7 .none .false [] .false]) (.block 0 (.loop (.seq (.seq (.reg 8 4 [.mk (.some 11) (.mv (.t 5)) .none 8
  .none .false [] .false, .mk (.some 12) (.mv (.t 0)) .none 9 .none .false [] .false, .mk (.some 13) (.len (.t 12)) .none 10 .none .false [] .false, .mk (.some 14) (.bin .lss (.t
  11) (.t 13)) .none 11 .none .false [] .false]) (.cond (.t 14) .skip (.exit 0))) (.seq (.block 1 (.seq (.draw 12 9 [] [] [.mk (.some 17) (.mv (.t 0)) .none 12 (.some []) .true []
  .false, .mk (.some 18) (.mv (.t 5)) .none 13 (.some []) .true [] .false, .mk (.some 19) (.iaddr 2 (.t 17) (.t 18)) .none 14 (.some []) .true [] .false, .mk (.some 20) (.load 2
  .true (.t 19)) .none 15 (.some []) .true [] .false, .mk (.some 21) (.mv (.t 1)) .none 16 (.some []) .true [] .false, .mk (.some 22) (.mv (.t 5)) .none 17 (.some []) .true []
  .false, .mk (.some 23) (.iaddr 2 (.t 21) (.t 22)) .none 18 (.some []) .true [] .false, .mk (.some 24) (.load 2 .true (.t 23)) .none 19 (.some []) .true [] .false, .mk (.some 25)
  (.pur (.bin .neq 79) [.t 20, .t 24]) .none 20 (.some []) .true [] .false]) (.cond (.t 25) (.seq (.reg 21 1 [.mk (.some 4) (.mv (.k (.bool .false))) .none 21 .none .false []
  .false]) .ret) .skip))) (.reg 22 3 [.mk (.some 15) (.mv (.t 5)) .none 22 .none .false [] .false, .mk (.some 16) (.bin .add (.t 15) (.k (.int .i64 1))) .none 23 .none .false []
  .false, .mk (.some 5) (.mv (.t 16)) .none 24 .none .false [] .false])))))) (.seq (.reg 25 1 [.mk (.some 4) (.mv (.k (.bool .true))) .none 25 .none .false [] .false]) .ret)))
def rs29 : List IRes := [.tmp 4]
set_option maxRecDepth 100000 in
theorem comp29 : Comp Try.prog 29 ir29 rs29 26 := ⟨⟨_, _, 26, Try.func29, rfl, by kernel_rfl, by kernel_rfl, rfl⟩⟩
theorem body29 : HasBody Try.prog 29 := hasBody_of (by kernel_rfl)

def ir32 : IC :=
  .seq (.reg 0 2 [.mk (.some 1) (.box 25 (.t 0)) .none 0 .none .false [] .false, .mk (.some 2) (.mv (.k (.int .i64 0))) .none 1 .none .false [] .false]) (.seq (.seq (.reg 2 10 [.mk
  (.some 9) (.faddr 0 (.t 1)) .none 2 .none .false [] .false, .mk (.some 10) (.load 1 .false (.t 9)) .none 3 .none .false [] .false, .mk (.some 11) (.len (.t 10)) .none 4 .none
  .false [] .false, .mk (.some 12) (.bin .gtr (.t 11) (.k (.int .i64 60))) .none 5 .none .false [] .false, .mk (.some 13) (.mv (.t 12)) .none 6 .none .false [] .false, .mk (.some
  14) (.faddr 1 (.t 1)) (.some (13, .false)) 7 .none .false [] .false, .mk (.some 15) (.load 1 .false (.t 14)) (.some (13, .false)) 8 .none .false [] .false, .mk (.some 16) (.len
  (.t 15)) (.some (13, .false)) 9 .none .false [] .false, .mk (.some 17) (.bin .gtr (.t 16) (.k (.int .i64 12))) (.some (13, .false)) 10 .none .false [] .false, .mk (.some 18)
  (.pick (.t 13) (.k (.bool .true)) (.t 17)) .none 11 .none .false [] .false]) (.cond (.t 18) (.seq (.reg 12 1 [.mk (.some 2) (.mv (.k (.int .i64 3))) .none 12 .none .false []
  .false]) .ret) .skip)) (.seq (.seq (.reg 13 1 [.mk (.some 3) (.mv (.k (.int .i64 0))) .none 13 .none .false [] .false]) (.block 0 (.loop (.seq (.seq (.reg 14 5 [.mk (.some 19)
  (.mv (.t 3)) .none 14 .none .false [] .false, .mk (.some 20) (.faddr 0 (.t 1)) .none 15 .none .false [] .false, .mk (.some 21) (.load 1 .false (.t 20)) .none 16 .none .false []
  .false, .mk (.some 22) (.len (.t 21)) .none 17 .none .false [] .false, .mk (.some 23) (.bin .lss (.t 19) (.t 22)) .none 18 .none .false [] .false]) (.cond (.t 23) .skip (.exit
  0))) (.seq (.block 1 (.seq (.reg 19 8 [.mk (.some 26) (.faddr 0 (.t 1)) .none 19 .none .false [] .false, .mk (.some 27) (.load 1 .false (.t 26)) .none 20 .none .false [] .false,
  .mk (.some 28) (.mv (.t 3)) .none 21 .none .false [] .false, .mk (.some 29) (.iaddr 2 (.t 27) (.t 28)) .none 22 .none .false [] .false, .mk (.some 30) (.faddr 1 (.t 29)) .none 23
  .none .false [] .false, .mk (.some 31) (.load 1 .false (.t 30)) .none 24 .none .false [] .false, .mk (.some 32) (.len (.t 31)) .none 25 .none .false [] .false, .mk (.some 33)
  (.bin .gtr (.t 32) (.k (.int .i64 5))) .none 26 .none .false [] .false]) (.cond (.t 33) (.seq (.reg 27 1 [.mk (.some 2) (.mv (.k (.int .i64 3))) .none 27 .none .false [] .false])
  .ret) .skip))) (.reg 28 3 [.mk (.some 24) (.mv (.t 3)) .none 28 .none .false [] .false, .mk (.some 25) (.bin .add (.t 24) (.k (.int .i64 1))) .none 29 .none .false [] .false, .mk
  (.some 3) (.mv (.t 25)) .none 30 .none .false [] .false])))))) (.seq (.seq (.reg 31 1 [.mk (.some 4) (.mv (.k (.int .i64 0))) .none 31 .none .false [] .false]) (.block 2 (.loop
  (.seq (.seq (.reg 32 5 [.mk (.some 34) (.mv (.t 4)) .none 32 .none .false [] .false, .mk (.some 35) (.faddr 0 (.t 1)) .none 33 .none .false [] .false, .mk (.some 36) (.load 1
  .false (.t 35)) .none 34 .none .false [] .false, .mk (.some 37) (.len (.t 36)) .none 35 .none .false [] .false, .mk (.some 38) (.bin .lss (.t 34) (.t 37)) .none 36 .none .false []
  .false]) (.cond (.t 38) .skip (.exit 2))) (.seq (.block 3 (.seq (.reg 37 7 [.mk (.some 41) (.faddr 0 (.t 1)) .none 37 .none .false [] .false, .mk (.some 42) (.load 1 .false (.t
  41)) .none 38 .none .false [] .false, .mk (.some 43) (.mv (.t 4)) .none 39 .none .false [] .false, .mk (.some 44) (.iaddr 2 (.t 42) (.t 43)) .none 40 .none .false [] .false, .mk
  (.some 45) (.load 2 .true (.t 44)) .none 41 .none .false [] .false, .mk (.some 5) (.alloc 82 [.string (ByteArray.mk (Array.mk [])), .slice .none 0 0]) .none 42 .none .false []
  .false, .mk .none (.store 2 (.t 5) (.t 45)) .none 43 .none .false [] .false]) (.seq (.seq (.reg 44 11 [.mk (.some 46) (.faddr 0 (.t 5)) .none 44 .none .false [] .false, .mk (.some
  47) (.load 1 .false (.t 46)) .none 45 .none .false [] .false, .mk (.some 48) (.lenS (.t 47)) .none 46 .none .false [] .false, .mk (.some 49) (.call 53 [.t 48, .k (.int .i64 1), .k
  (.int .i64 20)]) .none 47 .none .false [] .false, .mk (.some 50) (.un .not (.t 49)) .none 48 .none .false [] .false, .mk (.some 51) (.mv (.t 50)) .none 49 .none .false [] .false,
  .mk (.some 52) (.faddr 1 (.t 5)) (.some (51, .false)) 50 .none .false [] .false, .mk (.some 53) (.load 1 .false (.t 52)) (.some (51, .false)) 51 .none .false [] .false, .mk (.some
  54) (.call 60 [.t 53, .k (.int .i64 99)]) (.some (51, .false)) 52 .none .false [] .false, .mk (.some 55) (.un .not (.t 54)) (.some (51, .false)) 53 .none .false [] .false, .mk
  (.some 56) (.pick (.t 51) (.k (.bool .true)) (.t 55)) .none 54 .none .false [] .false]) (.cond (.t 56) (.seq (.reg 55 1 [.mk (.some 2) (.mv (.k (.int .i64 1))) .none 55 .none
  .false [] .false]) .ret) .skip)) (.seq (.reg 56 1 [.mk (.some 6) (.mv (.k (.int .i64 0))) .none 56 .none .false [] .false]) (.block 4 (.loop (.seq (.seq (.reg 57 5 [.mk (.some 57)
  (.mv (.t 6)) .none 57 .none .false [] .false, .mk (.some 58) (.faddr 0 (.t 5)) .none 58 .none .false [] .false, .mk (.some 59) (.load 1 .false (.t 58)) .none 59 .none .false []
  .false, .mk (.some 60) (.lenS (.t 59)) .none 60 .none .false [] .false, .mk (.some 61) (.bin .lss (.t 57) (.t 60)) .none 61 .none .false [] .false]) (.cond (.t 61) .skip (.exit
  4))) (.seq (.block 5 (.seq (.reg 62 12 [.mk (.some 64) (.faddr 0 (.t 5)) .none 62 .none .false [] .false, .mk (.some 65) (.load 1 .false (.t 64)) .none 63 .none .false [] .false,
  .mk (.some 66) (.mv (.t 6)) .none 64 .none .false [] .false, .mk (.some 67) (.pur (.idx 9) [.t 65, .t 66]) .none 65 .none .false [] .false, .mk (.some 68) (.bin .lss (.t 67) (.k
  (.int .u8 33))) .none 66 .none .false [] .false, .mk (.some 69) (.mv (.t 68)) .none 67 .none .false [] .false, .mk (.some 70) (.faddr 0 (.t 5)) (.some (69, .false)) 68 .none
  .false [] .false, .mk (.some 71) (.load 1 .false (.t 70)) (.some (69, .false)) 69 .none .false [] .false, .mk (.some 72) (.mv (.t 6)) (.some (69, .false)) 70 .none .false []
  .false, .mk (.some 73) (.pur (.idx 9) [.t 71, .t 72]) (.some (69, .false)) 71 .none .false [] .false, .mk (.some 74) (.bin .gtr (.t 73) (.k (.int .u8 126))) (.some (69, .false))
  72 .none .false [] .false, .mk (.some 75) (.pick (.t 69) (.k (.bool .true)) (.t 74)) .none 73 .none .false [] .false]) (.cond (.t 75) (.seq (.reg 74 1 [.mk (.some 2) (.mv (.k
  (.int .i64 1))) .none 74 .none .false [] .false]) .ret) .skip))) (.reg 75 3 [.mk (.some 62) (.mv (.t 6)) .none 75 .none .false [] .false, .mk (.some 63) (.bin .add (.t 62) (.k
  (.int .i64 1))) .none 76 .none .false [] .false, .mk (.some 6) (.mv (.t 63)) .none 77 .none .false [] .false]))))))))) (.reg 78 3 [.mk (.some 39) (.mv (.t 4)) .none 78 .none
  .false [] .false, .mk (.some 40) (.bin .add (.t 39) (.k (.int .i64 1))) .none 79 .none .false [] .false, .mk (.some 4) (.mv (.t 40)) .none 80 .none .false [] .false])))))) (.seq
  (.seq (.reg 81 1 [.mk (.some 7) (.mv (.k (.int .i64 0))) .none 81 .none .false [] .false]) (.block 6 (.loop (.seq (.seq (.reg 82 5 [.mk (.some 76) (.mv (.t 7)) .none 82 .none
  .false [] .false, .mk (.some 77) (.faddr 1 (.t 1)) .none 83 .none .false [] .false, .mk (.some 78) (.load 1 .false (.t 77)) .none 84 .none .false [] .false, .mk (.some 79) (.len
  (.t 78)) .none 85 .none .false [] .false, .mk (.some 80) (.bin .lss (.t 76) (.t 79)) .none 86 .none .false [] .false]) (.cond (.t 80) .skip (.exit 6))) (.seq (.block 7 (.seq (.reg
  87 7 [.mk (.some 83) (.faddr 1 (.t 1)) .none 87 .none .false [] .false, .mk (.some 84) (.load 1 .false (.t 83)) .none 88 .none .false [] .false, .mk (.some 85) (.mv (.t 7)) .none
  89 .none .false [] .false, .mk (.some 86) (.iaddr 4 (.t 84) (.t 85)) .none 90 .none .false [] .false, .mk (.some 87) (.load 4 .true (.t 86)) .none 91 .none .false [] .false, .mk
  (.some 8) (.alloc 90 [.int .i64 0, .int .i64 0, .int .i64 0, .int .i64 0]) .none 92 .none .false [] .false, .mk .none (.store 4 (.t 8) (.t 87)) .none 93 .none .false [] .false])
  (.seq (.reg 94 28 [.mk (.some 88) (.faddr 1 (.t 8)) .none 94 .none .false [] .false, .mk (.some 89) (.load 1 .false (.t 88)) .none 95 .none .false [] .false, .mk (.some 90)
  (.faddr 0 (.t 1)) .none 96 .none .false [] .false, .mk (.some 91) (.load 1 .false (.t 90)) .none 97 .none .false [] .false, .mk (.some 92) (.len (.t 91)) .none 98 .none .false []
  .false, .mk (.some 93) (.call 53 [.t 89, .k (.int .i64 1), .t 92]) .none 99 .none .false [] .false, .mk (.some 94) (.un .not (.t 93)) .none 100 .none .false [] .false, .mk (.some
  95) (.mv (.t 94)) .none 101 .none .false [] .false, .mk (.some 96) (.faddr 0 (.t 8)) (.some (95, .false)) 102 .none .false [] .false, .mk (.some 97) (.load 1 .false (.t 96))
  (.some (95, .false)) 103 .none .false [] .false, .mk (.some 98) (.faddr 1 (.t 8)) (.some (95, .false)) 104 .none .false [] .false, .mk (.some 99) (.load 1 .false (.t 98)) (.some
  (95, .false)) 105 .none .false [] .false, .mk (.some 100) (.bin .sub (.t 99) (.k (.int .i64 1))) (.some (95, .false)) 106 .none .false [] .false, .mk (.some 101) (.call 53 [.t 97,
  .k (.int .i64 0), .t 100]) (.some (95, .false)) 107 .none .false [] .false, .mk (.some 102) (.un .not (.t 101)) (.some (95, .false)) 108 .none .false [] .false, .mk (.some 103)
  (.pick (.t 95) (.k (.bool .true)) (.t 102)) .none 109 .none .false [] .false, .mk (.some 104) (.mv (.t 103)) .none 110 .none .false [] .false, .mk (.some 105) (.faddr 2 (.t 8))
  (.some (104, .false)) 111 .none .false [] .false, .mk (.some 106) (.load 1 .false (.t 105)) (.some (104, .false)) 112 .none .false [] .false, .mk (.some 107) (.call 53 [.t 106, .k
  (.int .i64 0), .k (.int .i64 7)]) (.some (104, .false)) 113 .none .false [] .false, .mk (.some 108) (.un .not (.t 107)) (.some (104, .false)) 114 .none .false [] .false, .mk
  (.some 109) (.pick (.t 104) (.k (.bool .true)) (.t 108)) .none 115 .none .false [] .false, .mk (.some 110) (.mv (.t 109)) .none 116 .none .false [] .false, .mk (.some 111) (.faddr
  3 (.t 8)) (.some (110, .false)) 117 .none .false [] .false, .mk (.some 112) (.load 1 .false (.t 111)) (.some (110, .false)) 118 .none .false [] .false, .mk (.some 113) (.call 53
  [.t 112, .k (.int .i64 0), .k (.int .i64 9999)]) (.some (110, .false)) 119 .none .false [] .false, .mk (.some 114) (.un .not (.t 113)) (.some (110, .false)) 120 .none .false []
  .false, .mk (.some 115) (.pick (.t 110) (.k (.bool .true)) (.t 114)) .none 121 .none .false [] .false]) (.cond (.t 115) (.seq (.reg 122 1 [.mk (.some 2) (.mv (.k (.int .i64 1)))
  .none 122 .none .false [] .false]) .ret) .skip)))) (.reg 123 3 [.mk (.some 81) (.mv (.t 7)) .none 123 .none .false [] .false, .mk (.some 82) (.bin .add (.t 81) (.k (.int .i64 1)))
  .none 124 .none .false [] .false, .mk (.some 7) (.mv (.t 82)) .none 125 .none .false [] .false])))))) (.seq (.seq (.reg 126 4 [.mk (.some 116) (.faddr 2 (.t 1)) .none 126 .none
  .false [] .false, .mk (.some 117) (.load 1 .false (.t 116)) .none 127 .none .false [] .false, .mk (.some 118) (.call 53 [.t 117, .k (.int .i64 1), .k (.int .i64 20)]) .none 128
  .none .false [] .false, .mk (.some 119) (.un .not (.t 118)) .none 129 .none .false [] .false]) (.cond (.t 119) (.seq (.reg 130 1 [.mk (.some 2) (.mv (.k (.int .i64 1))) .none 130
  .none .false [] .false]) .ret) .skip)) (.seq (.reg 131 1 [.mk (.some 2) (.mv (.k (.int .i64 0))) .none 131 .none .false [] .false]) .ret))))))
def rs32 : List IRes := [.tmp 2]
set_option maxRecDepth 100000 in
theorem comp32 : Comp Try.prog 32 ir32 rs32 120 := ⟨⟨_, _, 132, Try.func32, rfl, by kernel_rfl, by kernel_rfl, rfl⟩⟩
theorem body32 : HasBody Try.prog 32 := hasBody_of (by kernel_rfl)

def ir33 : IC :=
  .seq (.reg 0 3 [.mk (.some 2) (.box 25 (.t 0)) .none 0 .none .false [] .false, .mk (.some 3) (.box 28 (.t 1)) .none 1 .none .false [] .false, .mk (.some 4) (.mv (.k (.slice .none 0
  0))) .none 2 .none .false [] .false]) (.seq (.reg 3 1 [.mk (.some 5) (.mv (.k (.slice .none 0 0))) .none 3 .none .false [] .false]) (.seq (.seq (.reg 4 1 [.mk (.some 6) (.mv (.k
  (.int .i64 0))) .none 4 .none .false [] .false]) (.block 0 (.loop (.seq (.seq (.reg 5 5 [.mk (.some 7) (.mv (.t 6)) .none 5 .none .false [] .false, .mk (.some 8) (.faddr 0 (.t 2))
  .none 6 .none .false [] .false, .mk (.some 9) (.load 1 .false (.t 8)) .none 7 .none .false [] .false, .mk (.some 10) (.len (.t 9)) .none 8 .none .false [] .false, .mk (.some 11)
  (.bin .lss (.t 7) (.t 10)) .none 9 .none .false [] .false]) (.cond (.t 11) .skip (.exit 0))) (.seq (.block 1 (.seq (.reg 10 5 [.mk (.some 14) (.load 3 .true (.t 2)) .none 10 .none
  .false [] .false, .mk (.some 15) (.load 2 .true (.t 3)) .none 11 .none .false [] .false, .mk (.some 16) (.mv (.t 6)) .none 12 .none .false [] .false, .mk (.some 17) (.call 35 [.t
  14, .t 15, .t 16]) .none 13 .none .false [] .false, .mk (.some 18) (.un .not (.t 17)) .none 14 .none .false [] .false]) (.cond (.t 18) (.reg 15 5 [.mk (.some 19) (.mv (.t 5))
  .none 15 .none .false [] .false, .mk (.some 20) (.mv (.t 6)) .none 16 .none .false [] .false, .mk (.some 21) (.bsl 3 1 1 [.int .i64 0] [(0, .t 20)]) .none 17 .none .false []
  .false, .mk (.some 22) (.app 3 1 8 (.t 19) (.t 21)) .none 18 .none .false [] .false, .mk (.some 5) (.mv (.t 22)) .none 19 .none .false [] .false]) (.seq (.reg 20 12 [.mk (.some
  23) (.mv (.t 5)) .none 20 .none .false [] .false, .mk (.some 24) (.len (.t 23)) .none 21 .none .false [] .false, .mk (.some 25) (.bin .eql (.t 24) (.k (.int .i64 0))) .none 22
  .none .false [] .false, .mk (.some 26) (.mv (.t 25)) .none 23 .none .false [] .false, .mk (.some 27) (.mv (.t 5)) (.some (26, .false)) 24 .none .false [] .false, .mk (.some 28)
  (.mv (.t 5)) (.some (26, .false)) 25 .none .false [] .false, .mk (.some 29) (.len (.t 28)) (.some (26, .false)) 26 .none .false [] .false, .mk (.some 30) (.bin .sub (.t 29) (.k
  (.int .i64 1))) (.some (26, .false)) 27 .none .false [] .false, .mk (.some 31) (.iaddr 1 (.t 27) (.t 30)) (.some (26, .false)) 28 .none .false [] .false, .mk (.some 32) (.load 1
  .false (.t 31)) (.some (26, .false)) 29 .none .false [] .false, .mk (.some 33) (.bin .neq (.t 32) (.k (.int .i64 (-1)))) (.some (26, .false)) 30 .none .false [] .false, .mk (.some
  34) (.pick (.t 26) (.k (.bool .true)) (.t 33)) .none 31 .none .false [] .false]) (.cond (.t 34) (.reg 32 4 [.mk (.some 35) (.mv (.t 5)) .none 32 .none .false [] .false, .mk (.some
  36) (.bsl 3 1 1 [.int .i64 0] [(0, .k (.int .i64 (-1)))]) .none 33 .none .false [] .false, .mk (.some 37) (.app 3 1 8 (.t 35) (.t 36)) .none 34 .none .false [] .false, .mk (.some
  5) (.mv (.t 37)) .none 35 .none .false [] .false]) .skip))))) (.reg 36 3 [.mk (.some 12) (.mv (.t 6)) .none 36 .none .false [] .false, .mk (.some 13) (.bin .add (.t 12) (.k (.int
  .i64 1))) .none 37 .none .false [] .false, .mk (.some 6) (.mv (.t 13)) .none 38 .none .false [] .false])))))) (.seq (.reg 39 2 [.mk (.some 38) (.mv (.t 5)) .none 39 .none .false
  [] .false, .mk (.some 4) (.mv (.t 38)) .none 40 .none .false [] .false]) .ret)))
def rs33 : List IRes := [.tmp 4]
set_option maxRecDepth 100000 in
theorem comp33 : Comp Try.prog 33 ir33 rs33 39 := ⟨⟨_, _, 41, Try.func33, rfl, by kernel_rfl, by kernel_rfl, rfl⟩⟩
theorem body33 : HasBody Try.prog 33 := hasBody_of (by kernel_rfl)

def ir34 : IC :=
  .seq (.reg 0 3 [.mk (.some 2) (.box 25 (.t 0)) .none 0 .none .false [] .false, .mk (.some 3) (.box 28 (.t 1)) .none 1 .none .false [] .false, .mk (.some 4) (.mv (.k (.slice .none 0
  0))) .none 2 .none .false [] .false]) (.seq (.reg 3 1 [.mk (.some 5) (.mv (.k (.slice .none 0 0))) .none 3 .none .false [] .false]) (.seq (.reg 4 4 [.mk (.some 9) (.load 3 .true
  (.t 2)) .none 4 .none .false [] .false, .mk (.some 10) (.load 2 .true (.t 3)) .none 5 .none .false [] .false, .mk (.some 11) (.call 33 [.t 9, .t 10]) .none 6 .none .false []
  .false, .mk (.some 6) (.mv (.t 11)) .none 7 .none .false [] .false]) (.seq (.seq (.reg 8 1 [.mk (.some 7) (.mv (.k (.int .i64 0))) .none 8 .none .false [] .false]) (.block 0
  (.loop (.seq (.seq (.reg 9 4 [.mk (.some 12) (.mv (.t 7)) .none 9 .none .false [] .false, .mk (.some 13) (.mv (.t 6)) .none 10 .none .false [] .false, .mk (.some 14) (.len (.t
  13)) .none 11 .none .false [] .false, .mk (.some 15) (.bin .lss (.t 12) (.t 14)) .none 12 .none .false [] .false]) (.cond (.t 15) .skip (.exit 0))) (.seq (.block 1 (.seq (.reg 13
  8 [.mk (.some 18) (.mv (.t 7)) .none 13 .none .false [] .false, .mk (.some 19) (.faddr 2 (.t 2)) .none 14 .none .false [] .false, .mk (.some 20) (.load 1 .false (.t 19)) .none 15
  .none .false [] .false, .mk (.some 21) (.bin .quo (.t 18) (.t 20)) .none 16 .none .false [] .false, .mk (.some 22) (.bin .add (.t 21) (.k (.int .i64 1))) .none 17 .none .false []
  .false, .mk (.some 23) (.bld [(0, 1), (1, 1)] [.string (ByteArray.mk (Array.mk [])), .int .i64 0] [(1, .t 22)]) .none 18 .none .false [] .false, .mk (.some 8) (.alloc 78 [.string
  (ByteArray.mk (Array.mk [])), .int .i64 0]) .none 19 .none .false [] .false, .mk .none (.store 2 (.t 8) (.t 23)) .none 20 .none .false [] .false]) (.seq (.seq (.reg 21 5 [.mk
  (.some 24) (.mv (.t 6)) .none 21 .none .false [] .false, .mk (.some 25) (.mv (.t 7)) .none 22 .none .false [] .false, .mk (.some 26) (.iaddr 1 (.t 24) (.t 25)) .none 23 .none
  .false [] .false, .mk (.some 27) (.load 1 .false (.t 26)) .none 24 .none .false [] .false, .mk (.some 28) (.bin .geq (.t 27) (.k (.int .i64 0))) .none 25 .none .false [] .false])
  (.cond (.t 28) (.draw 26 11 [] [] [.mk (.some 29) (.faddr 0 (.t 2)) .none 26 (.some []) .true [] .false, .mk (.some 30) (.load 1 .false (.t 29)) .none 27 (.some []) .true []
  .false, .mk (.some 31) (.mv (.t 6)) .none 28 (.some []) .true [] .false, .mk (.some 32) (.mv (.t 7)) .none 29 (.some []) .true [] .false, .mk (.some 33) (.iaddr 1 (.t 31) (.t 32))
  .none 30 (.some []) .true [] .false, .mk (.some 34) (.load 1 .false (.t 33)) .none 31 (.some []) .true [] .false, .mk (.some 35) (.iaddr 2 (.t 30) (.t 34)) .none 32 (.some [])
  .true [] .false, .mk (.some 36) (.faddr 0 (.t 35)) .none 33 (.some []) .true [] .false, .mk (.some 37) (.load 1 .false (.t 36)) .none 34 (.some []) .true [] .false, .mk (.some 38)
  (.faddr 0 (.t 8)) .none 35 (.some []) .true [] .false, .mk .none (.store 1 (.t 38) (.t 37)) .none 36 (.some []) .true [] .false]) .skip)) (.reg 37 5 [.mk (.some 39) (.mv (.t 5))
  .none 37 .none .false [] .false, .mk (.some 40) (.load 2 .true (.t 8)) .none 38 .none .false [] .false, .mk (.some 41) (.bsl 78 2 1 [.string (ByteArray.mk (Array.mk [])), .int
  .i64 0] [(0, .t 40)]) .none 39 .none .false [] .false, .mk (.some 42) (.app 78 2 24 (.t 39) (.t 41)) .none 40 .none .false [] .false, .mk (.some 5) (.mv (.t 42)) .none 41 .none
  .false [] .false])))) (.reg 42 3 [.mk (.some 16) (.mv (.t 7)) .none 42 .none .false [] .false, .mk (.some 17) (.bin .add (.t 16) (.k (.int .i64 1))) .none 43 .none .false []
  .false, .mk (.some 7) (.mv (.t 17)) .none 44 .none .false [] .false])))))) (.seq (.reg 45 2 [.mk (.some 43) (.mv (.t 5)) .none 45 .none .false [] .false, .mk (.some 4) (.mv (.t
  43)) .none 46 .none .false [] .false]) .ret))))
def rs34 : List IRes := [.tmp 4]
set_option maxRecDepth 100000 in
theorem comp34 : Comp Try.prog 34 ir34 rs34 44 := ⟨⟨_, _, 47, Try.func34, rfl, by kernel_rfl, by kernel_rfl, rfl⟩⟩
theorem body34 : HasBody Try.prog 34 := hasBody_of (by kernel_rfl)

def ir35 : IC :=
  .seq (.reg 0 3 [.mk (.some 3) (.box 25 (.t 0)) .none 0 .none .false [] .false, .mk (.some 4) (.box 28 (.t 1)) .none 1 .none .false [] .false, .mk (.some 6) (.mv (.k (.bool .false)))
  .none 2 .none .false [] .false]) (.seq (.seq (.reg 3 1 [.mk (.some 7) (.mv (.k (.int .i64 0))) .none 3 .none .false [] .false]) (.block 0 (.loop (.seq (.seq (.reg 4 5 [.mk (.some
  8) (.mv (.t 7)) .none 4 .none .false [] .false, .mk (.some 9) (.faddr 1 (.t 3)) .none 5 .none .false [] .false, .mk (.some 10) (.load 1 .false (.t 9)) .none 6 .none .false []
  .false, .mk (.some 11) (.len (.t 10)) .none 7 .none .false [] .false, .mk (.some 12) (.bin .lss (.t 8) (.t 11)) .none 8 .none .false [] .false]) (.cond (.t 12) .skip (.exit 0)))
  (.seq (.block 1 (.seq (.draw 9 24 [2, 4] [] [.mk (.some 15) (.faddr 1 (.t 3)) .none 9 (.some []) .true [] .false, .mk (.some 16) (.load 1 .false (.t 15)) .none 10 (.some []) .true
  [] .false, .mk (.some 17) (.mv (.t 7)) .none 11 (.some []) .true [] .false, .mk (.some 18) (.iaddr 4 (.t 16) (.t 17)) .none 12 (.some []) .true [] .false, .mk (.some 19) (.load 4
  .true (.t 18)) .none 13 (.some []) .true [] .false, .mk (.some 20) (.load 2 .true (.t 4)) .none 14 (.some []) .true [] .false, .mk (.some 21) (.call 41 [.t 19, .t 20]) .none 15
  (.some []) .true [] .false, .mk (.some 22) (.mv (.t 21)) .none 16 (.some [15]) .true [] .false, .mk (.some 23) (.mv (.t 2)) (.some (22, .true)) 17 (.some [15]) .true [] .false,
  .mk (.some 24) (.faddr 1 (.t 3)) (.some (22, .true)) 18 (.some [15]) .true [] .false, .mk (.some 25) (.load 1 .false (.t 24)) (.some (22, .true)) 19 (.some [15]) .false [] .false,
  .mk (.some 26) (.mv (.t 7)) (.some (22, .true)) 20 (.some [15]) .true [] .false, .mk (.some 27) (.iaddr 4 (.t 25) (.t 26)) (.some (22, .true)) 21 (.some [15]) .true [] .false, .mk
  (.some 28) (.faddr 0 (.t 27)) (.some (22, .true)) 22 (.some [15]) .true [] .false, .mk (.some 29) (.load 1 .false (.t 28)) (.some (22, .true)) 23 (.some [15]) .false [] .false,
  .mk (.some 30) (.faddr 1 (.t 3)) (.some (22, .true)) 24 (.some [15]) .true [] .false, .mk (.some 31) (.load 1 .false (.t 30)) (.some (22, .true)) 25 (.some [15]) .false [] .false,
  .mk (.some 32) (.mv (.t 7)) (.some (22, .true)) 26 (.some [15]) .true [] .false, .mk (.some 33) (.iaddr 4 (.t 31) (.t 32)) (.some (22, .true)) 27 (.some [15]) .true [] .false, .mk
  (.some 34) (.faddr 1 (.t 33)) (.some (22, .true)) 28 (.some [15]) .true [] .false, .mk (.some 35) (.load 1 .false (.t 34)) (.some (22, .true)) 29 (.some [15]) .false [] .false,
  .mk (.some 36) (.bin .sub (.t 35) (.k (.int .i64 1))) (.some (22, .true)) 30 (.some [15]) .true [] .false, .mk (.some 37) (.call 53 [.t 23, .t 29, .t 36]) (.some (22, .true)) 31
  (.some [15]) .false [] .false, .mk (.some 38) (.pick (.t 22) (.t 37) (.k (.bool .false))) .none 32 (.some [31, 15]) .true [] .false]) (.cond (.t 38) (.seq (.reg 33 1 [.mk (.some
  6) (.mv (.k (.bool .true))) .none 33 .none .false [] .false]) .ret) .skip))) (.reg 34 3 [.mk (.some 13) (.mv (.t 7)) .none 34 .none .false [] .false, .mk (.some 14) (.bin .add (.t
  13) (.k (.int .i64 1))) .none 35 .none .false [] .false, .mk (.some 7) (.mv (.t 14)) .none 36 .none .false [] .false])))))) (.seq (.reg 37 1 [.mk (.some 6) (.mv (.k (.bool
  .false))) .none 37 .none .false [] .false]) .ret))
def rs35 : List IRes := [.tmp 6]
set_option maxRecDepth 100000 in
theorem comp35 : Comp Try.prog 35 ir35 rs35 39 := ⟨⟨_, _, 38, Try.func35, rfl, by kernel_rfl, by kernel_rfl, rfl⟩⟩
theorem body35 : HasBody Try.prog 35 := hasBody_of (by kernel_rfl)

def ir38 : IC :=
  .seq (.reg 0 1 [.mk (.some 4) (.mv (.k (.bool .false))) .none 0 .none .false [] .false]) (.seq (.seq (.reg 1 5 [.mk (.some 6) (.mv (.t 0)) .none 1 .none .false [] .false, .mk (.some
  7) (.len (.t 6)) .none 2 .none .false [] .false, .mk (.some 8) (.mv (.t 1)) .none 3 .none .false [] .false, .mk (.some 9) (.len (.t 8)) .none 4 .none .false [] .false, .mk (.some
  10) (.bin .neq (.t 7) (.t 9)) .none 5 .none .false [] .false]) (.cond (.t 10) (.seq (.reg 6 1 [.mk (.some 4) (.mv (.k (.bool .false))) .none 6 .none .false [] .false]) .ret)
  .skip)) (.seq (.seq (.reg 7 1 [.mk (.some 5) (.mv (.k (.int .i64 0))) .none 7 .none .false [] .false]) (.block 0 (.loop (.seq (.seq (.reg 8 4 [.mk (.some 11) (.mv (.t 5)) .none 8
  .none .false [] .false, .mk (.some 12) (.mv (.t 0)) .none 9 .none .false [] .false, .mk (.some 13) (.len (.t 12)) .none 10 .none .false [] .false, .mk (.some 14) (.bin .lss (.t
  11) (.t 13)) .none 11 .none .false [] .false]) (.cond (.t 14) .skip (.exit 0))) (.seq (.block 1 (.seq (.draw 12 9 [] [] [.mk (.some 17) (.mv (.t 0)) .none 12 (.some []) .true []
  .false, .mk (.some 18) (.mv (.t 5)) .none 13 (.some []) .true [] .false, .mk (.some 19) (.iaddr 1 (.t 17) (.t 18)) .none 14 (.some []) .true [] .false, .mk (.some 20) (.load 1
  .false (.t 19)) .none 15 (.some []) .true [] .false, .mk (.some 21) (.mv (.t 1)) .none 16 (.some []) .true [] .false, .mk (.some 22) (.mv (.t 5)) .none 17 (.some []) .true []
  .false, .mk (.some 23) (.iaddr 1 (.t 21) (.t 22)) .none 18 (.some []) .true [] .false, .mk (.some 24) (.load 1 .false (.t 23)) .none 19 (.some []) .true [] .false, .mk (.some 25)
  (.bin .neq (.t 20) (.t 24)) .none 20 (.some []) .true [] .false]) (.cond (.t 25) (.seq (.reg 21 1 [.mk (.some 4) (.mv (.k (.bool .false))) .none 21 .none .false [] .false]) .ret)
  .skip))) (.reg 22 3 [.mk (.some 15) (.mv (.t 5)) .none 22 .none .false [] .false, .mk (.some 16) (.bin .add (.t 15) (.k (.int .i64 1))) .none 23 .none .false [] .false, .mk (.some
  5) (.mv (.t 16)) .none 24 .none .false [] .false])))))) (.seq (.reg 25 1 [.mk (.some 4) (.mv (.k (.bool .true))) .none 25 .none .false [] .false]) .ret)))
def rs38 : List IRes := [.tmp 4]
set_option maxRecDepth 100000 in
theorem comp38 : Comp Try.prog 38 ir38 rs38 26 := ⟨⟨_, _, 26, Try.func38, rfl, by kernel_rfl, by kernel_rfl, rfl⟩⟩
theorem body38 : HasBody Try.prog 38 := hasBody_of (by kernel_rfl)

def ir39 : IC :=
  .seq (.reg 0 3 [.mk (.some 2) (.box 25 (.t 0)) .none 0 .none .false [] .false, .mk (.some 3) (.box 28 (.t 1)) .none 1 .none .false [] .false, .mk (.some 4) (.mv (.k (.slice .none 0
  0))) .none 2 .none .false [] .false]) (.seq (.reg 3 1 [.mk (.some 5) (.mv (.k (.slice .none 0 0))) .none 3 .none .false [] .false]) (.seq (.seq (.reg 4 1 [.mk (.some 6) (.mv (.k
  (.int .i64 0))) .none 4 .none .false [] .false]) (.block 0 (.loop (.seq (.seq (.reg 5 5 [.mk (.some 7) (.mv (.t 6)) .none 5 .none .false [] .false, .mk (.some 8) (.faddr 1 (.t 2))
  .none 6 .none .false [] .false, .mk (.some 9) (.load 1 .false (.t 8)) .none 7 .none .false [] .false, .mk (.some 10) (.len (.t 9)) .none 8 .none .false [] .false, .mk (.some 11)
  (.bin .lss (.t 7) (.t 10)) .none 9 .none .false [] .false]) (.cond (.t 11) .skip (.exit 0))) (.seq (.block 1 (.seq (.draw 10 22 [2, 3] [] [.mk (.some 14) (.faddr 1 (.t 2)) .none
  10 (.some []) .true [] .false, .mk (.some 15) (.load 1 .false (.t 14)) .none 11 (.some []) .true [] .false, .mk (.some 16) (.mv (.t 6)) .none 12 (.some []) .true [] .false, .mk
  (.some 17) (.iaddr 4 (.t 15) (.t 16)) .none 13 (.some []) .true [] .false, .mk (.some 18) (.load 4 .true (.t 17)) .none 14 (.some []) .true [] .false, .mk (.some 19) (.load 2
  .true (.t 3)) .none 15 (.some []) .true [] .false, .mk (.some 20) (.call 41 [.t 18, .t 19]) .none 16 (.some []) .true [] .false, .mk (.some 21) (.mv (.t 20)) .none 17 (.some [16])
  .true [] .false, .mk (.some 22) (.load 3 .true (.t 2)) (.some (21, .true)) 18 (.some [16]) .false [] .false, .mk (.some 23) (.load 2 .true (.t 3)) (.some (21, .true)) 19 (.some
  [16]) .false [] .false, .mk (.some 24) (.faddr 1 (.t 2)) (.some (21, .true)) 20 (.some [16]) .true [] .false, .mk (.some 25) (.load 1 .false (.t 24)) (.some (21, .true)) 21 (.some
  [16]) .false [] .false, .mk (.some 26) (.len (.t 25)) (.some (21, .true)) 22 (.some [16]) .true [] .false, .mk (.some 27) (.conv .u64 (.t 26)) (.some (21, .true)) 23 (.some [16])
  .true [] .false, .mk (.some 28) (.pur (.bin .shl 3) [.k (.int .i64 1), .t 27]) (.some (21, .true)) 24 (.some [16]) .true [] .false, .mk (.some 29) (.bin .sub (.t 28) (.k (.int
  .i64 1))) (.some (21, .true)) 25 (.some [16]) .true [] .false, .mk (.some 30) (.mv (.t 6)) (.some (21, .true)) 26 (.some [16]) .true [] .false, .mk (.some 31) (.conv .u64 (.t 30))
  (.some (21, .true)) 27 (.some [16]) .true [] .false, .mk (.some 32) (.pur (.bin .shl 3) [.k (.int .i64 1), .t 31]) (.some (21, .true)) 28 (.some [16]) .true [] .false, .mk (.some
  33) (.bin .sub (.t 29) (.t 32)) (.some (21, .true)) 29 (.some [16]) .true [] .false, .mk (.some 34) (.call 66 [.t 22, .t 23, .t 33]) (.some (21, .true)) 30 (.some [16]) .false []
  .false, .mk (.some 35) (.pick (.t 21) (.t 34) (.k (.bool .false))) .none 31 (.some [30, 16]) .true [] .false]) (.cond (.t 35) (.reg 32 5 [.mk (.some 36) (.mv (.t 5)) .none 32
  .none .false [] .false, .mk (.some 37) (.mv (.t 6)) .none 33 .none .false [] .false, .mk (.some 38) (.bsl 3 1 1 [.int .i64 0] [(0, .t 37)]) .none 34 .none .false [] .false, .mk
  (.some 39) (.app 3 1 8 (.t 36) (.t 38)) .none 35 .none .false [] .false, .mk (.some 5) (.mv (.t 39)) .none 36 .none .false [] .false]) .skip))) (.reg 37 3 [.mk (.some 12) (.mv (.t
  6)) .none 37 .none .false [] .false, .mk (.some 13) (.bin .add (.t 12) (.k (.int .i64 1))) .none 38 .none .false [] .false, .mk (.some 6) (.mv (.t 13)) .none 39 .none .false []
  .false])))))) (.seq (.reg 40 2 [.mk (.some 40) (.mv (.t 5)) .none 40 .none .false [] .false, .mk (.some 4) (.mv (.t 40)) .none 41 .none .false [] .false]) .ret)))
def rs39 : List IRes := [.tmp 4]
set_option maxRecDepth 100000 in
theorem comp39 : Comp Try.prog 39 ir39 rs39 41 := ⟨⟨_, _, 42, Try.func39, rfl, by kernel_rfl, by kernel_rfl, rfl⟩⟩
theorem body39 : HasBody Try.prog 39 := hasBody_of (by kernel_rfl)

def ir40 : IC :=
  .seq (.reg 0 3 [.mk (.some 2) (.box 25 (.t 0)) .none 0 .none .false [] .false, .mk (.some 3) (.box 28 (.t 1)) .none 1 .none .false [] .false, .mk (.some 4) (.mv (.k (.int .i64 0)))
  .none 2 .none .false [] .false]) (.seq (.reg 3 4 [.mk (.some 9) (.faddr 1 (.t 2)) .none 3 .none .false [] .false, .mk (.some 10) (.load 1 .false (.t 9)) .none 4 .none .false []
  .false, .mk (.some 11) (.len (.t 10)) .none 5 .none .false [] .false, .mk (.some 5) (.mv (.t 11)) .none 6 .none .false [] .false]) (.seq (.seq (.reg 7 1 [.mk (.some 6) (.mv (.k
  (.int .i64 0))) .none 7 .none .false [] .false]) (.block 0 (.loop (.seq (.seq (.reg 8 7 [.mk (.some 12) (.mv (.t 6)) .none 8 .none .false [] .false, .mk (.some 13) (.faddr 1 (.t
  2)) .none 9 .none .false [] .false, .mk (.some 14) (.load 1 .false (.t 13)) .none 10 .none .false [] .false, .mk (.some 15) (.len (.t 14)) .none 11 .none .false [] .false, .mk
  (.some 16) (.conv .u64 (.t 15)) .none 12 .none .false [] .false, .mk (.some 17) (.pur (.bin .shl 3) [.k (.int .i64 1), .t 16]) .none 13 .none .false [] .false, .mk (.some 18)
  (.bin .lss (.t 12) (.t 17)) .none 14 .none .false [] .false]) (.cond (.t 18) .skip (.exit 0))) (.seq (.block 1 (.seq (.reg 15 1 [.mk (.some 7) (.mv (.k (.int .i64 0))) .none 15
  .none .false [] .false]) (.seq (.seq (.reg 16 1 [.mk (.some 8) (.mv (.k (.int .i64 0))) .none 16 .none .false [] .false]) (.block 2 (.loop (.seq (.seq (.reg 17 5 [.mk (.some 21)
  (.mv (.t 8)) .none 17 .none .false [] .false, .mk (.some 22) (.faddr 1 (.t 2)) .none 18 .none .false [] .false, .mk (.some 23) (.load 1 .false (.t 22)) .none 19 .none .false []
  .false, .mk (.some 24) (.len (.t 23)) .none 20 .none .false [] .false, .mk (.some 25) (.bin .lss (.t 21) (.t 24)) .none 21 .none .false [] .false]) (.cond (.t 25) .skip (.exit
  2))) (.seq (.block 3 (.reg 22 8 [.mk (.some 28) (.mv (.t 7)) .none 22 .none .false [] .false, .mk (.some 29) (.mv (.t 6)) .none 23 .none .false [] .false, .mk (.some 30) (.mv (.t
  8)) .none 24 .none .false [] .false, .mk (.some 31) (.conv .u64 (.t 30)) .none 25 .none .false [] .false, .mk (.some 32) (.pur (.bin .shr 3) [.t 29, .t 31]) .none 26 .none .false
  [] .false, .mk (.some 33) (.bin .rem (.t 32) (.k (.int .i64 2))) .none 27 .none .false [] .false, .mk (.some 34) (.bin .add (.t 28) (.t 33)) .none 28 .none .false [] .false, .mk
  (.some 7) (.mv (.t 34)) .none 29 .none .false [] .false])) (.reg 30 3 [.mk (.some 26) (.mv (.t 8)) .none 30 .none .false [] .false, .mk (.some 27) (.bin .add (.t 26) (.k (.int
  .i64 1))) .none 31 .none .false [] .false, .mk (.some 8) (.mv (.t 27)) .none 32 .none .false [] .false])))))) (.seq (.reg 33 9 [.mk (.some 35) (.mv (.t 7)) .none 33 .none .false
  [] .false, .mk (.some 36) (.mv (.t 5)) .none 34 .none .false [] .false, .mk (.some 37) (.bin .lss (.t 35) (.t 36)) .none 35 .none .false [] .false, .mk (.some 38) (.mv (.t 37))
  .none 36 .none .false [] .false, .mk (.some 39) (.load 3 .true (.t 2)) (.some (38, .true)) 37 .none .false [] .false, .mk (.some 40) (.load 2 .true (.t 3)) (.some (38, .true)) 38
  .none .false [] .false, .mk (.some 41) (.mv (.t 6)) (.some (38, .true)) 39 .none .false [] .false, .mk (.some 42) (.call 66 [.t 39, .t 40, .t 41]) (.some (38, .true)) 40 .none
  .false [] .false, .mk (.some 43) (.pick (.t 38) (.t 42) (.k (.bool .false))) .none 41 .none .false [] .false]) (.cond (.t 43) (.reg 42 2 [.mk (.some 44) (.mv (.t 7)) .none 42
  .none .false [] .false, .mk (.some 5) (.mv (.t 44)) .none 43 .none .false [] .false]) .skip))))) (.reg 44 3 [.mk (.some 19) (.mv (.t 6)) .none 44 .none .false [] .false, .mk
  (.some 20) (.bin .add (.t 19) (.k (.int .i64 1))) .none 45 .none .false [] .false, .mk (.some 6) (.mv (.t 20)) .none 46 .none .false [] .false])))))) (.seq (.reg 47 2 [.mk (.some
  45) (.mv (.t 5)) .none 47 .none .false [] .false, .mk (.some 4) (.mv (.t 45)) .none 48 .none .false [] .false]) .ret)))
def rs40 : List IRes := [.tmp 4]
set_option maxRecDepth 100000 in
theorem comp40 : Comp Try.prog 40 ir40 rs40 46 := ⟨⟨_, _, 49, Try.func40, rfl, by kernel_rfl, by kernel_rfl, rfl⟩⟩
theorem body40 : HasBody Try.prog 40 := hasBody_of (by kernel_rfl)

def ir41 : IC :=
  .seq (.reg 0 3 [.mk (.some 2) (.box 90 (.t 0)) .none 0 .none .false [] .false, .mk (.some 3) (.box 28 (.t 1)) .none 1 .none .false [] .false, .mk (.some 4) (.mv (.k (.bool .false)))
  .none 2 .none .false [] .false]) (.seq (.reg 3 14 [.mk (.some 5) (.faddr 0 (.t 3)) .none 3 .none .false [] .false, .mk (.some 6) (.load 1 .false (.t 5)) .none 4 .none .false []
  .false, .mk (.some 7) (.faddr 3 (.t 2)) .none 5 .none .false [] .false, .mk (.some 8) (.load 1 .false (.t 7)) .none 6 .none .false [] .false, .mk (.some 9) (.bin .lss (.t 6) (.t
  8)) .none 7 .none .false [] .false, .mk (.some 10) (.mv (.t 9)) .none 8 .none .false [] .false, .mk (.some 11) (.faddr 1 (.t 3)) (.some (10, .true)) 9 .none .false [] .false, .mk
  (.some 12) (.load 1 .false (.t 11)) (.some (10, .true)) 10 .none .false [] .false, .mk (.some 13) (.faddr 2 (.t 2)) (.some (10, .true)) 11 .none .false [] .false, .mk (.some 14)
  (.load 1 .false (.t 13)) (.some (10, .true)) 12 .none .false [] .false, .mk (.some 15) (.call 24 [.t 12, .t 14]) (.some (10, .true)) 13 .none .false [] .false, .mk (.some 16) (.un
  .not (.t 15)) (.some (10, .true)) 14 .none .false [] .false, .mk (.some 17) (.pick (.t 10) (.t 16) (.k (.bool .false))) .none 15 .none .false [] .false, .mk (.some 4) (.mv (.t
  17)) .none 16 .none .false [] .false]) .ret)
def rs41 : List IRes := [.tmp 4]
set_option maxRecDepth 100000 in
theorem comp41 : Comp Try.prog 41 ir41 rs41 18 := ⟨⟨_, _, 17, Try.func41, rfl, by kernel_rfl, by kernel_rfl, rfl⟩⟩
theorem body41 : HasBody Try.prog 41 := hasBody_of (by kernel_rfl)

def ir49 : IC :=
  .seq (.reg 0 2 [.mk (.some 1) (.box 28 (.t 0)) .none 0 .none .false [] .false, .mk (.some 2) (.mv (.k (.bool .false))) .none 1 .none .false [] .false]) (.seq (.reg 2 9 [.mk (.some
  3) (.faddr 0 (.t 1)) .none 2 .none .false [] .false, .mk (.some 4) (.load 1 .false (.t 3)) .none 3 .none .false [] .false, .mk (.some 5) (.call 53 [.t 4, .k (.int .i64 0), .k
  (.int .i64 9999)]) .none 4 .none .false [] .false, .mk (.some 6) (.mv (.t 5)) .none 5 .none .false [] .false, .mk (.some 7) (.faddr 1 (.t 1)) (.some (6, .true)) 6 .none .false []
  .false, .mk (.some 8) (.load 1 .false (.t 7)) (.some (6, .true)) 7 .none .false [] .false, .mk (.some 9) (.call 60 [.t 8, .k (.int .i64 7)]) (.some (6, .true)) 8 .none .false []
  .false, .mk (.some 10) (.pick (.t 6) (.t 9) (.k (.bool .false))) .none 9 .none .false [] .false, .mk (.some 2) (.mv (.t 10)) .none 10 .none .false [] .false]) .ret)
def rs49 : List IRes := [.tmp 2]
set_option maxRecDepth 100000 in
theorem comp49 : Comp Try.prog 49 ir49 rs49 11 := ⟨⟨_, _, 11, Try.func49, rfl, by kernel_rfl, by kernel_rfl, rfl⟩⟩
theorem body49 : HasBody Try.prog 49 := hasBody_of (by kernel_rfl)

def ir53 : IC :=
  .seq (.reg 0 1 [.mk (.some 6) (.mv (.k (.bool .false))) .none 0 .none .false [] .false]) (.seq (.reg 1 9 [.mk (.some 7) (.mv (.t 0)) .none 1 .none .false [] .false, .mk (.some 8)
  (.mv (.t 1)) .none 2 .none .false [] .false, .mk (.some 9) (.bin .geq (.t 7) (.t 8)) .none 3 .none .false [] .false, .mk (.some 10) (.mv (.t 9)) .none 4 .none .false [] .false,
  .mk (.some 11) (.mv (.t 0)) (.some (10, .true)) 5 .none .false [] .false, .mk (.some 12) (.mv (.t 2)) (.some (10, .true)) 6 .none .false [] .false, .mk (.some 13) (.bin .leq (.t
  11) (.t 12)) (.some (10, .true)) 7 .none .false [] .false, .mk (.some 14) (.pick (.t 10) (.t 13) (.k (.bool .false))) .none 8 .none .false [] .false, .mk (.some 6) (.mv (.t 14))
  .none 9 .none .false [] .false]) .ret)
def rs53 : List IRes := [.tmp 6]
set_option maxRecDepth 100000 in
theorem comp53 : Comp Try.prog 53 ir53 rs53 15 := ⟨⟨_, _, 10, Try.func53, rfl, by kernel_rfl, by kernel_rfl, rfl⟩⟩
theorem body53 : HasBody Try.prog 53 := hasBody_of (by kernel_rfl)

def ir60 : IC :=
  .seq (.reg 0 1 [.mk (.some 4) (.mv (.k (.bool .false))) .none 0 .none .false [] .false]) (.seq (.seq (.reg 1 1 [.mk (.some 5) (.mv (.k (.int .i64 0))) .none 1 .none .false []
  .false]) (.block 0 (.loop (.seq (.seq (.reg 2 4 [.mk (.some 6) (.mv (.t 5)) .none 2 .none .false [] .false, .mk (.some 7) (.mv (.t 0)) .none 3 .none .false [] .false, .mk (.some
  8) (.len (.t 7)) .none 4 .none .false [] .false, .mk (.some 9) (.bin .lss (.t 6) (.t 8)) .none 5 .none .false [] .false]) (.cond (.t 9) .skip (.exit 0))) (.seq (.block 1 (.seq
  (.draw 6 23 [1] [] [.mk (.some 12) (.mv (.t 0)) .none 6 (.some []) .true [] .false, .mk (.some 13) (.mv (.t 5)) .none 7 (.some []) .true [] .false, .mk (.some 14) (.iaddr 1 (.t
  12) (.t 13)) .none 8 (.some []) .true [] .false, .mk (.some 15) (.load 1 .false (.t 14)) .none 9 (.some []) .true [] .false, .mk (.some 16) (.mv (.t 1)) .none 10 (.some []) .true
  [] .false, .mk (.some 17) (.call 53 [.t 15, .k (.int .i64 0), .t 16]) .none 11 (.some []) .true [] .false, .mk (.some 18) (.un .not (.t 17)) .none 12 (.some [11]) .true [] .false,
  .mk (.some 19) (.mv (.t 18)) .none 13 (.some [11]) .true [] .false, .mk (.some 20) (.mv (.t 5)) (.some (19, .false)) 14 (.some [11]) .true [] .false, .mk (.some 21) (.bin .gtr (.t
  20) (.k (.int .i64 0))) (.some (19, .false)) 15 (.some [11]) .true [] .false, .mk (.some 22) (.mv (.t 21)) (.some (19, .false)) 16 (.some [11]) .true [] .false, .mk (.some 23)
  (.mv (.t 0)) (.some (22, .true)) 17 (.some [11]) .true [] .false, .mk (.some 24) (.mv (.t 5)) (.some (22, .true)) 18 (.some [11]) .true [] .false, .mk (.some 25) (.iaddr 1 (.t 23)
  (.t 24)) (.some (22, .true)) 19 (.some [11]) .true [] .false, .mk (.some 26) (.load 1 .false (.t 25)) (.some (22, .true)) 20 (.some [11]) .false [] .false, .mk (.some 27) (.mv (.t
  0)) (.some (22, .true)) 21 (.some [11]) .true [] .false, .mk (.some 28) (.mv (.t 5)) (.some (22, .true)) 22 (.some [11]) .true [] .false, .mk (.some 29) (.bin .sub (.t 28) (.k
  (.int .i64 1))) (.some (22, .true)) 23 (.some [11]) .true [] .false, .mk (.some 30) (.iaddr 1 (.t 27) (.t 29)) (.some (22, .true)) 24 (.some [11]) .true [] .false, .mk (.some 31)
  (.load 1 .false (.t 30)) (.some (22, .true)) 25 (.some [11]) .false [] .false, .mk (.some 32) (.bin .leq (.t 26) (.t 31)) (.some (22, .true)) 26 (.some [11]) .true [] .false, .mk
  (.some 33) (.pick (.t 22) (.t 32) (.k (.bool .false))) (.some (19, .false)) 27 (.some [11]) .true [] .false, .mk (.some 34) (.pick (.t 19) (.k (.bool .true)) (.t 33)) .none 28
  (.some [11]) .true [] .false]) (.cond (.t 34) (.seq (.reg 29 1 [.mk (.some 4) (.mv (.k (.bool .false))) .none 29 .none .false [] .false]) .ret) .skip))) (.reg 30 3 [.mk (.some 10)
  (.mv (.t 5)) .none 30 .none .false [] .false, .mk (.some 11) (.bin .add (.t 10) (.k (.int .i64 1))) .none 31 .none .false [] .false, .mk (.some 5) (.mv (.t 11)) .none 32 .none
  .false [] .false])))))) (.seq (.reg 33 1 [.mk (.some 4) (.mv (.k (.bool .true))) .none 33 .none .false [] .false]) .ret))
def rs60 : List IRes := [.tmp 4]
set_option maxRecDepth 100000 in
theorem comp60 : Comp Try.prog 60 ir60 rs60 35 := ⟨⟨_, _, 34, Try.func60, rfl, by kernel_rfl, by kernel_rfl, rfl⟩⟩
theorem body60 : HasBody Try.prog 60 := hasBody_of (by kernel_rfl)

def ir66 : IC :=
  .seq (.reg 0 3 [.mk (.some 3) (.box 25 (.t 0)) .none 0 .none .false [] .false, .mk (.some 4) (.box 28 (.t 1)) .none 1 .none .false [] .false, .mk (.some 6) (.mv (.k (.bool .false)))
  .none 2 .none .false [] .false]) (.seq (.reg 3 1 [.mk (.some 7) (.mv (.k (.slice .none 0 0))) .none 3 .none .false [] .false]) (.seq (.seq (.reg 4 1 [.mk (.some 8) (.mv (.k (.int
  .i64 0))) .none 4 .none .false [] .false]) (.block 0 (.loop (.seq (.seq (.reg 5 5 [.mk (.some 10) (.mv (.t 8)) .none 5 .none .false [] .false, .mk (.some 11) (.faddr 1 (.t 3))
  .none 6 .none .false [] .false, .mk (.some 12) (.load 1 .false (.t 11)) .none 7 .none .false [] .false, .mk (.some 13) (.len (.t 12)) .none 8 .none .false [] .false, .mk (.some
  14) (.bin .lss (.t 10) (.t 13)) .none 9 .none .false [] .false]) (.cond (.t 14) .skip (.exit 0))) (.seq (.block 1 (.seq (.reg 10 6 [.mk (.some 17) (.mv (.t 2)) .none 10 .none
  .false [] .false, .mk (.some 18) (.mv (.t 8)) .none 11 .none .false [] .false, .mk (.some 19) (.conv .u64 (.t 18)) .none 12 .none .false [] .false, .mk (.some 20) (.pur (.bin .shr
  3) [.t 17, .t 19]) .none 13 .none .false [] .false, .mk (.some 21) (.bin .rem (.t 20) (.k (.int .i64 2))) .none 14 .none .false [] .false, .mk (.some 22) (.bin .eql (.t 21) (.k
  (.int .i64 1))) .none 15 .none .false [] .false]) (.cond (.t 22) (.reg 16 9 [.mk (.some 23) (.mv (.t 7)) .none 16 .none .false [] .false, .mk (.some 24) (.faddr 1 (.t 3)) .none 17
  .none .false [] .false, .mk (.some 25) (.load 1 .false (.t 24)) .none 18 .none .false [] .false, .mk (.some 26) (.mv (.t 8)) .none 19 .none .false [] .false, .mk (.some 27)
  (.iaddr 4 (.t 25) (.t 26)) .none 20 .none .false [] .false, .mk (.some 28) (.load 4 .true (.t 27)) .none 21 .none .false [] .false, .mk (.some 29) (.bsl 90 4 1 [.int .i64 0, .int
  .i64 0, .int .i64 0, .int .i64 0] [(0, .t 28)]) .none 22 .none .false [] .false, .mk (.some 30) (.app 90 4 32 (.t 23) (.t 29)) .none 23 .none .false [] .false, .mk (.some 7) (.mv
  (.t 30)) .none 24 .none .false [] .false]) .skip))) (.reg 25 3 [.mk (.some 15) (.mv (.t 8)) .none 25 .none .false [] .false, .mk (.some 16) (.bin .add (.t 15) (.k (.int .i64 1)))
  .none 26 .none .false [] .false, .mk (.some 8) (.mv (.t 16)) .none 27 .none .false [] .false])))))) (.seq (.seq (.reg 28 1 [.mk (.some 9) (.mv (.k (.int .i64 0))) .none 28 .none
  .false [] .false]) (.block 2 (.loop (.seq (.seq (.reg 29 5 [.mk (.some 31) (.mv (.t 9)) .none 29 .none .false [] .false, .mk (.some 32) (.faddr 0 (.t 3)) .none 30 .none .false []
  .false, .mk (.some 33) (.load 1 .false (.t 32)) .none 31 .none .false [] .false, .mk (.some 34) (.len (.t 33)) .none 32 .none .false [] .false, .mk (.some 35) (.bin .lss (.t 31)
  (.t 34)) .none 33 .none .false [] .false]) (.cond (.t 35) .skip (.exit 2))) (.seq (.block 3 (.seq (.reg 34 14 [.mk (.some 38) (.load 3 .true (.t 3)) .none 34 .none .false []
  .false, .mk (.some 39) (.load 2 .true (.t 4)) .none 35 .none .false [] .false, .mk (.some 40) (.mv (.t 9)) .none 36 .none .false [] .false, .mk (.some 41) (.call 35 [.t 38, .t 39,
  .t 40]) .none 37 .none .false [] .false, .mk (.some 42) (.mv (.t 41)) .none 38 .none .false [] .false, .mk (.some 43) (.faddr 0 (.t 3)) (.some (42, .true)) 39 .none .false []
  .false, .mk (.some 44) (.load 1 .false (.t 43)) (.some (42, .true)) 40 .none .false [] .false, .mk (.some 45) (.mv (.t 7)) (.some (42, .true)) 41 .none .false [] .false, .mk
  (.some 46) (.bld [(0, 1), (1, 1), (2, 1)] [.slice .none 0 0, .slice .none 0 0, .int .i64 0] [(0, .t 44), (1, .t 45)]) (.some (42, .true)) 42 .none .false [] .false, .mk (.some 47)
  (.load 2 .true (.t 4)) (.some (42, .true)) 43 .none .false [] .false, .mk (.some 48) (.mv (.t 9)) (.some (42, .true)) 44 .none .false [] .false, .mk (.some 49) (.call 35 [.t 46,
  .t 47, .t 48]) (.some (42, .true)) 45 .none .false [] .false, .mk (.some 50) (.un .not (.t 49)) (.some (42, .true)) 46 .none .false [] .false, .mk (.some 51) (.pick (.t 42) (.t
  50) (.k (.bool .false))) .none 47 .none .false [] .false]) (.cond (.t 51) (.seq (.reg 48 1 [.mk (.some 6) (.mv (.k (.bool .false))) .none 48 .none .false [] .false]) .ret)
  .skip))) (.reg 49 3 [.mk (.some 36) (.mv (.t 9)) .none 49 .none .false [] .false, .mk (.some 37) (.bin .add (.t 36) (.k (.int .i64 1))) .none 50 .none .false [] .false, .mk (.some
  9) (.mv (.t 37)) .none 51 .none .false [] .false])))))) (.seq (.reg 52 1 [.mk (.some 6) (.mv (.k (.bool .true))) .none 52 .none .false [] .false]) .ret))))
def rs66 : List IRes := [.tmp 6]
set_option maxRecDepth 100000 in
theorem comp66 : Comp Try.prog 66 ir66 rs66 52 := ⟨⟨_, _, 53, Try.func66, rfl, by kernel_rfl, by kernel_rfl, rfl⟩⟩
theorem body66 : HasBody Try.prog 66 := hasBody_of (by kernel_rfl)

end Go.Proofs.Ytpcpjmplgladmaa

namespace Go.Proofs.Ytpcpjmplgladmaa
open Go.Pal
def ir15 : IC :=
  .seq (.reg 1 4 [.mk (.some 2) (.box 38 (.t 0)) .none 1 .none .false [] .false, .mk (.some 3) (.box 40 (.t 1)) .none 2 .none .false [] .false, .mk (.some 4) (.mv (.k (.slice .none 0
  0))) .none 3 .none .false [] .false, .mk (.some 5) (.mv (.k (.int .i64 0))) .none 4 .none .false [] .false]) (.seq (.reg 5 9 [.mk (.some 17) (.load 3 .true (.t 2)) .none 5 .none
  .false [] .false, .mk (.some 18) (.load 2 .true (.t 3)) .none 6 .none .false [] .false, .mk (.some 19) (.call 44 [.t 17, .t 18]) .none 7 .none .false [] .false, .mk (.some 16)
  (.mv (.t 19)) .none 8 .none .false [] .false, .mk (.some 20) (.ext (.t 16) 0) .none 9 .none .false [] .false, .mk (.some 21) (.ext (.t 16) 1) .none 10 .none .false [] .false, .mk
  (.some 6) (.alloc 97 [.slice .none 0 0, .slice .none 0 0, .int .i64 0, .int .i64 0, .slice .none 0 0, .bool .false, .bool .false, .bool .false, .bool .false, .bool .false, .bool
  .false, .bool .false, .bool .false, .bool .false, .bool .false, .bool .false, .bool .false, .bool .false, .bool .false, .bool .false, .bool .false, .bool .false, .bool .false,
  .bool .false, .bool .false, .bool .false, .bool .false, .bool .false, .bool .false, .bool .false, .bool .false, .bool .false, .bool .false, .bool .false, .bool .false, .bool
  .false, .bool .false, .bool .false, .bool .false, .bool .false, .bool .false, .bool .false, .bool .false, .bool .false, .bool .false, .bool .false, .bool .false, .bool .false,
  .bool .false, .bool .false, .bool .false, .bool .false, .bool .false, .bool .false, .bool .false, .bool .false, .bool .false, .bool .false, .bool .false, .bool .false, .bool
  .false, .bool .false, .bool .false, .bool .false, .bool .false]) .none 11 .none .false [] .false, .mk .none (.store 65 (.t 6) (.t 20)) .none 12 .none .false [] .false, .mk (.some
  7) (.mv (.t 21)) .none 13 .none .false [] .false]) (.seq (.seq (.reg 14 2 [.mk (.some 22) (.mv (.t 7)) .none 14 .none .false [] .false, .mk (.some 23) (.bin .neq (.t 22) (.k (.int
  .i64 0))) .none 15 .none .false [] .false]) (.cond (.t 23) (.seq (.reg 16 3 [.mk (.some 24) (.mv (.t 7)) .none 16 .none .false [] .false, .mk (.some 4) (.mv (.k (.slice .none 0
  0))) .none 17 .none .false [] .false, .mk (.some 5) (.mv (.t 24)) .none 18 .none .false [] .false]) .ret) .skip)) (.seq (.reg 19 3 [.mk (.some 25) .mkm .none 19 .none .false []
  .false, .mk (.some 8) (.alloc 100 [.map .none]) .none 20 .none .false [] .false, .mk .none (.store 1 (.t 8) (.t 25)) .none 21 .none .false [] .false]) (.seq (.seq (.reg 22 2 [.mk
  (.some 26) (.load 65 .true (.t 6)) .none 22 .none .false [] .false, .mk (.some 27) (.call 45 [.t 26]) .none 23 .none .false [] .false]) (.block 0 (.range (.t 27) [28, 29] (.seq
  (.reg 24 1 [.mk (.some 9) (.mv (.t 28)) .none 24 .none .false [] .false]) (.reg 25 2 [.mk (.some 10) (.alloc 79 [.string (ByteArray.mk (Array.mk [])), .int .i64 0]) .none 25 .none
  .false [] .false, .mk .none (.store 2 (.t 10) (.t 29)) .none 26 .none .false [] .false])) (.block 1 (.seq (.seq (.reg 27 2 [.mk (.some 30) (.mv (.t 9)) .none 27 .none .false []
  .false, .mk (.some 31) (.bin .eql (.t 30) (.k (.int .i64 (-1)))) .none 28 .none .false [] .false]) (.cond (.t 31) (.exit 1) .skip)) (.seq (.reg 29 9 [.mk (.some 32) (.faddr 0 (.t
  6)) .none 29 .none .false [] .false, .mk (.some 33) (.faddr 0 (.t 32)) .none 30 .none .false [] .false, .mk (.some 34) (.load 1 .false (.t 33)) .none 31 .none .false [] .false,
  .mk (.some 35) (.mv (.t 9)) .none 32 .none .false [] .false, .mk (.some 36) (.iaddr 2 (.t 34) (.t 35)) .none 33 .none .false [] .false, .mk (.some 37) (.faddr 1 (.t 36)) .none 34
  .none .false [] .false, .mk (.some 38) (.load 1 .false (.t 37)) .none 35 .none .false [] .false, .mk (.some 39) (.len (.t 38)) .none 36 .none .false [] .false, .mk (.some 40) (.mv
  (.k (.int .i64 0))) .none 37 .none .false [] .false]) (.block 2 (.loop (.seq (.reg 38 1 [.mk (.some 41) (.bin .lss (.t 40) (.t 39)) .none 38 .none .false [] .false]) (.seq (.cond
  (.t 41) .skip (.exit 2)) (.seq (.block 3 (.seq (.reg 39 3 [.mk (.some 42) (.iaddr 1 (.t 38) (.t 40)) .none 39 .none .false [] .false, .mk (.some 43) (.load 1 .false (.t 42)) .none
  40 .none .false [] .false, .mk (.some 12) (.mv (.t 43)) .none 41 .none .false [] .false]) (.seq (.reg 42 7 [.mk (.some 44) (.load 1 .false (.t 8)) .none 42 .none .false [] .false,
  .mk (.some 45) (.mv (.t 12)) .none 43 .none .false [] .false, .mk (.some 46) (.lkp 3 (.slice .none 0 0) .false (.t 44) (.t 45)) .none 44 .none .false [] .false, .mk (.some 47)
  (.faddr 1 (.t 10)) .none 45 .none .false [] .false, .mk (.some 48) (.load 1 .false (.t 47)) .none 46 .none .false [] .false, .mk (.some 49) (.call 46 [.t 46, .t 48]) .none 47
  .none .false [] .false, .mk (.some 50) (.un .not (.t 49)) .none 48 .none .false [] .false]) (.cond (.t 50) (.drawd 49 10 [] [] [] [.some [8], .none, .some [8], .none, .none,
  .none, .some [10], .none, .none, .none] [(0, .mk (.some 51) (.load 1 .false (.t 8)) .none 49 (.some []) .true [] .false), (1, .mk (.some 52) (.mv (.t 12)) .none 50 (.some [])
  .true [] .false), (2, .mk (.some 53) (.load 1 .false (.t 8)) .none 51 (.some []) .true [] .false), (3, .mk (.some 54) (.mv (.t 12)) .none 52 (.some []) .true [] .false), (4, .mk
  (.some 55) (.lkp 3 (.slice .none 0 0) .false (.t 53) (.t 54)) .none 53 (.some []) .true [3, 2] .false), (5, .mk (.some 56) (.faddr 1 (.t 10)) .none 54 (.some []) .true [] .false),
  (6, .mk (.some 57) (.load 1 .false (.t 56)) .none 55 (.some []) .true [5] .false), (7, .mk (.some 58) (.bsl 3 1 1 [.int .i64 0] [(0, .t 57)]) .none 56 (.some []) .true [5, 6]
  .false), (8, .mk (.some 59) (.apph 3 1 8 (.t 55) (.t 58)) .none 57 (.some [0, 56]) .true [6, 5, 7, 2, 3, 4] .true), (9, .mk .none (.mup 3 (.t 51) (.t 52) (.t 59)) .none 58 (.some
  [56]) .true [4, 3, 2, 7, 5, 6, 8, 1, 0] .false)]) .skip)))) (.reg 59 2 [.mk (.some 60) (.bin .add (.t 40) (.k (.int .i64 1))) .none 59 .none .false [] .false, .mk (.some 40) (.mv
  (.t 60)) .none 60 .none .false [] .false])))))))))))) (.seq (.reg 61 1 [.mk (.some 13) (.mv (.k (.slice .none 0 0))) .none 61 .none .false [] .false]) (.seq (.seq (.reg 62 5 [.mk
  (.some 61) (.load 1 .false (.t 8)) .none 62 .none .false [] .false, .mk (.some 62) (.call 48 [.t 61]) .none 63 .none .false [] .false, .mk (.some 63) (.call 47 [.t 62]) .none 64
  .none .false [] .false, .mk (.some 64) (.len (.t 63)) .none 65 .none .false [] .false, .mk (.some 65) (.mv (.k (.int .i64 0))) .none 66 .none .false [] .false]) (.block 4 (.loop
  (.seq (.reg 67 1 [.mk (.some 66) (.bin .lss (.t 65) (.t 64)) .none 67 .none .false [] .false]) (.seq (.cond (.t 66) .skip (.exit 4)) (.seq (.block 5 (.seq (.reg 68 3 [.mk (.some
  67) (.iaddr 1 (.t 63) (.t 65)) .none 68 .none .false [] .false, .mk (.some 68) (.load 1 .false (.t 67)) .none 69 .none .false [] .false, .mk (.some 15) (.mv (.t 68)) .none 70
  .none .false [] .false]) (.reg 71 9 [.mk (.some 69) (.mv (.t 13)) .none 71 .none .false [] .false, .mk (.some 70) (.mv (.t 15)) .none 72 .none .false [] .false, .mk (.some 71)
  (.load 1 .false (.t 8)) .none 73 .none .false [] .false, .mk (.some 72) (.mv (.t 15)) .none 74 .none .false [] .false, .mk (.some 73) (.lkp 3 (.slice .none 0 0) .false (.t 71) (.t
  72)) .none 75 .none .false [] .false, .mk (.some 74) (.bld [(0, 1), (1, 1)] [.int .i64 0, .slice .none 0 0] [(0, .t 70), (1, .t 73)]) .none 76 .none .false [] .false, .mk (.some
  75) (.bsl 47 2 1 [.int .i64 0, .slice .none 0 0] [(0, .t 74)]) .none 77 .none .false [] .false, .mk (.some 76) (.app 47 2 32 (.t 69) (.t 75)) .none 78 .none .false [] .false, .mk
  (.some 13) (.mv (.t 76)) .none 79 .none .false [] .false]))) (.reg 80 2 [.mk (.some 77) (.bin .add (.t 65) (.k (.int .i64 1))) .none 80 .none .false [] .false, .mk (.some 65) (.mv
  (.t 77)) .none 81 .none .false [] .false]))))))) (.seq (.reg 82 3 [.mk (.some 78) (.mv (.t 13)) .none 82 .none .false [] .false, .mk (.some 4) (.mv (.t 78)) .none 83 .none .false
  [] .false, .mk (.some 5) (.mv (.k (.int .i64 0))) .none 84 .none .false [] .false]) .ret)))))))
def rs15 : List IRes := [.tmp 4, .tmp 5]
set_option maxRecDepth 100000 in
theorem comp15 : CompAt Try.prog 15 1 ir15 rs15 79 := ⟨⟨_, _, 85, Try.func15, rfl, by kernel_rfl, by kernel_rfl, rfl⟩⟩
theorem body15 : HasBody Try.prog 15 := hasBody_of (by kernel_rfl)

def ir21 : IC :=
  .seq (.reg 0 4 [.mk (.some 2) (.box 38 (.t 0)) .none 0 .none .false [] .false, .mk (.some 3) (.box 40 (.t 1)) .none 1 .none .false [] .false, .mk (.some 4) (.mv (.k (.slice .none 0
  0))) .none 2 .none .false [] .false, .mk (.some 5) (.mv (.k (.int .i64 0))) .none 3 .none .false [] .false]) (.seq (.reg 4 9 [.mk (.some 14) (.load 3 .true (.t 2)) .none 4 .none
  .false [] .false, .mk (.some 15) (.load 2 .true (.t 3)) .none 5 .none .false [] .false, .mk (.some 16) (.call 44 [.t 14, .t 15]) .none 6 .none .false [] .false, .mk (.some 13)
  (.mv (.t 16)) .none 7 .none .false [] .false, .mk (.some 17) (.ext (.t 13) 0) .none 8 .none .false [] .false, .mk (.some 18) (.ext (.t 13) 1) .none 9 .none .false [] .false, .mk
  (.some 6) (.alloc 97 [.slice .none 0 0, .slice .none 0 0, .int .i64 0, .int .i64 0, .slice .none 0 0, .bool .false, .bool .false, .bool .false, .bool .false, .bool .false, .bool
  .false, .bool .false, .bool .false, .bool .false, .bool .false, .bool .false, .bool .false, .bool .false, .bool .false, .bool .false, .bool .false, .bool .false, .bool .false,
  .bool .false, .bool .false, .bool .false, .bool .false, .bool .false, .bool .false, .bool .false, .bool .false, .bool .false, .bool .false, .bool .false, .bool .false, .bool
  .false, .bool .false, .bool .false, .bool .false, .bool .false, .bool .false, .bool .false, .bool .false, .bool .false, .bool .false, .bool .false, .bool .false, .bool .false,
  .bool .false, .bool .false, .bool .false, .bool .false, .bool .false, .bool .false, .bool .false, .bool .false, .bool .false, .bool .false, .bool .false, .bool .false, .bool
  .false, .bool .false, .bool .false, .bool .false, .bool .false]) .none 10 .none .false [] .false, .mk .none (.store 65 (.t 6) (.t 17)) .none 11 .none .false [] .false, .mk (.some
  7) (.mv (.t 18)) .none 12 .none .false [] .false]) (.seq (.seq (.reg 13 2 [.mk (.some 19) (.mv (.t 7)) .none 13 .none .false [] .false, .mk (.some 20) (.bin .neq (.t 19) (.k (.int
  .i64 0))) .none 14 .none .false [] .false]) (.cond (.t 20) (.seq (.reg 15 3 [.mk (.some 21) (.mv (.t 7)) .none 15 .none .false [] .false, .mk (.some 4) (.mv (.k (.slice .none 0
  0))) .none 16 .none .false [] .false, .mk (.some 5) (.mv (.t 21)) .none 17 .none .false [] .false]) .ret) .skip)) (.seq (.reg 18 1 [.mk (.some 8) (.mv (.k (.slice .none 0 0)))
  .none 18 .none .false [] .false]) (.seq (.seq (.reg 19 5 [.mk (.some 22) (.faddr 0 (.t 6)) .none 19 .none .false [] .false, .mk (.some 23) (.faddr 0 (.t 22)) .none 20 .none .false
  [] .false, .mk (.some 24) (.load 1 .false (.t 23)) .none 21 .none .false [] .false, .mk (.some 25) (.len (.t 24)) .none 22 .none .false [] .false, .mk (.some 26) (.mv (.k (.int
  .i64 0))) .none 23 .none .false [] .false]) (.block 0 (.loop (.seq (.reg 24 1 [.mk (.some 27) (.bin .lss (.t 26) (.t 25)) .none 24 .none .false [] .false]) (.seq (.cond (.t 27)
  .skip (.exit 0)) (.seq (.block 1 (.seq (.reg 25 2 [.mk (.some 28) (.mv (.t 26)) .none 25 .none .false [] .false, .mk (.some 9) (.mv (.t 28)) .none 26 .none .false [] .false])
  (.seq (.block 2 (.seq (.reg 27 6 [.mk (.some 30) (.mv (.t 9)) .none 27 .none .false [] .false, .mk (.some 31) (.faddr 5 (.t 6)) .none 28 .none .false [] .false, .mk (.some 32)
  (.aaddr 1 60 (.t 31) (.t 30)) .none 29 .none .false [] .false, .mk (.some 33) (.load 1 .false (.t 32)) .none 30 .none .false [] .false, .mk (.some 34) (.un .not (.t 33)) .none 31
  .none .false [] .false, .mk (.some 29) (.mv (.t 34)) .none 32 .none .false [] .false]) (.cond (.t 29) (.exit 1) (.seq (.reg 33 11 [.mk (.some 36) (.mv (.t 9)) .none 33 .none
  .false [] .false, .mk (.some 37) (.bin .eql (.t 36) (.k (.int .i64 0))) .none 34 .none .false [] .false, .mk (.some 38) (.mv (.t 37)) .none 35 .none .false [] .false, .mk (.some
  39) (.mv (.t 9)) (.some (38, .false)) 36 .none .false [] .false, .mk (.some 40) (.bin .sub (.t 39) (.k (.int .i64 1))) (.some (38, .false)) 37 .none .false [] .false, .mk (.some
  41) (.faddr 5 (.t 6)) (.some (38, .false)) 38 .none .false [] .false, .mk (.some 42) (.aaddr 1 60 (.t 41) (.t 40)) (.some (38, .false)) 39 .none .false [] .false, .mk (.some 43)
  (.load 1 .false (.t 42)) (.some (38, .false)) 40 .none .false [] .false, .mk (.some 44) (.un .not (.t 43)) (.some (38, .false)) 41 .none .false [] .false, .mk (.some 45) (.pick
  (.t 38) (.k (.bool .true)) (.t 44)) .none 42 .none .false [] .false, .mk (.some 35) (.mv (.t 45)) .none 43 .none .false [] .false]) (.cond (.t 35) (.reg 44 6 [.mk (.some 46) (.mv
  (.t 8)) .none 44 .none .false [] .false, .mk (.some 47) (.mv (.t 9)) .none 45 .none .false [] .false, .mk (.some 48) (.bld [(0, 1), (1, 1), (2, 1)] [.int .i64 0, .int .i64 0, .int
  .i64 0] [(0, .t 47)]) .none 46 .none .false [] .false, .mk (.some 49) (.bsl 55 3 1 [.int .i64 0, .int .i64 0, .int .i64 0] [(0, .t 48)]) .none 47 .none .false [] .false, .mk
  (.some 50) (.app 55 3 24 (.t 46) (.t 49)) .none 48 .none .false [] .false, .mk (.some 8) (.mv (.t 50)) .none 49 .none .false [] .false]) .skip))))) (.seq (.reg 50 6 [.mk (.some
  51) (.mv (.t 8)) .none 50 .none .false [] .false, .mk (.some 52) (.mv (.t 8)) .none 51 .none .false [] .false, .mk (.some 53) (.len (.t 52)) .none 52 .none .false [] .false, .mk
  (.some 54) (.bin .sub (.t 53) (.k (.int .i64 1))) .none 53 .none .false [] .false, .mk (.some 55) (.iaddr 3 (.t 51) (.t 54)) .none 54 .none .false [] .false, .mk (.some 10) (.mv
  (.t 55)) .none 55 .none .false [] .false]) (.seq (.reg 56 6 [.mk (.some 56) (.mv (.t 10)) .none 56 .none .false [] .false, .mk (.some 57) (.mv (.t 9)) .none 57 .none .false []
  .false, .mk (.some 58) (.bin .add (.t 57) (.k (.int .i64 1))) .none 58 .none .false [] .false, .mk (.some 59) (.nilc (.t 56)) .none 59 .none .false [] .false, .mk (.some 60)
  (.faddr 1 (.t 59)) .none 60 .none .false [] .false, .mk .none (.store 1 (.t 60) (.t 58)) .none 61 .none .false [] .false]) (.seq (.reg 62 5 [.mk (.some 61) (.faddr 0 (.t 6)) .none
  62 .none .false [] .false, .mk (.some 62) (.faddr 1 (.t 61)) .none 63 .none .false [] .false, .mk (.some 63) (.load 1 .false (.t 62)) .none 64 .none .false [] .false, .mk (.some
  64) (.len (.t 63)) .none 65 .none .false [] .false, .mk (.some 65) (.mv (.k (.int .i64 0))) .none 66 .none .false [] .false]) (.block 3 (.loop (.seq (.reg 67 1 [.mk (.some 66)
  (.bin .lss (.t 65) (.t 64)) .none 67 .none .false [] .false]) (.seq (.cond (.t 66) .skip (.exit 3)) (.seq (.block 4 (.seq (.reg 68 4 [.mk (.some 67) (.iaddr 4 (.t 63) (.t 65))
  .none 68 .none .false [] .false, .mk (.some 68) (.load 4 .true (.t 67)) .none 69 .none .false [] .false, .mk (.some 12) (.alloc 65 [.int .i64 0, .int .i64 0, .int .i64 0, .int
  .i64 0]) .none 70 .none .false [] .false, .mk .none (.store 4 (.t 12) (.t 68)) .none 71 .none .false [] .false]) (.seq (.reg 72 12 [.mk (.some 69) (.load 65 .true (.t 6)) .none 72
  .none .false [] .false, .mk (.some 70) (.load 4 .true (.t 12)) .none 73 .none .false [] .false, .mk (.some 71) (.call 50 [.t 69, .t 70]) .none 74 .none .false [] .false, .mk
  (.some 72) (.mv (.t 71)) .none 75 .none .false [] .false, .mk (.some 73) (.mv (.t 9)) (.some (72, .true)) 76 .none .false [] .false, .mk (.some 74) (.faddr 0 (.t 12)) (.some (72,
  .true)) 77 .none .false [] .false, .mk (.some 75) (.load 1 .false (.t 74)) (.some (72, .true)) 78 .none .false [] .false, .mk (.some 76) (.faddr 1 (.t 12)) (.some (72, .true)) 79
  .none .false [] .false, .mk (.some 77) (.load 1 .false (.t 76)) (.some (72, .true)) 80 .none .false [] .false, .mk (.some 78) (.bin .sub (.t 77) (.k (.int .i64 1))) (.some (72,
  .true)) 81 .none .false [] .false, .mk (.some 79) (.call 51 [.t 73, .t 75, .t 78]) (.some (72, .true)) 82 .none .false [] .false, .mk (.some 80) (.pick (.t 72) (.t 79) (.k (.bool
  .false))) .none 83 .none .false [] .false]) (.cond (.t 80) (.draw 84 12 [] [] [.mk (.some 81) (.mv (.t 10)) .none 84 (.some []) .true [] .false, .mk (.some 82) (.mv (.t 10)) .none
  85 (.some []) .true [] .false, .mk (.some 83) (.nilc (.t 82)) .none 86 (.some []) .true [] .false, .mk (.some 84) (.faddr 2 (.t 83)) .none 87 (.some []) .true [] .false, .mk
  (.some 85) (.load 1 .false (.t 84)) .none 88 (.some []) .true [] .false, .mk (.some 86) (.faddr 3 (.t 12)) .none 89 (.some []) .true [] .false, .mk (.some 87) (.load 1 .false (.t
  86)) .none 90 (.some []) .true [] .false, .mk (.some 88) (.bslp 3 1 2 [.int .i64 0, .int .i64 0] [(0, .t 85), (1, .t 87)]) .none 91 (.some []) .true [] .false, .mk (.some 89)
  (.call 52 [.t 88]) .none 92 (.some [91]) .false [] .false, .mk (.some 90) (.nilc (.t 81)) .none 93 (.some [92, 91]) .true [] .false, .mk (.some 91) (.faddr 2 (.t 90)) .none 94
  (.some [91, 92]) .true [] .false, .mk .none (.store 1 (.t 91) (.t 89)) .none 95 (.some [92, 91]) .true [] .false]) .skip)))) (.reg 96 2 [.mk (.some 92) (.bin .add (.t 65) (.k
  (.int .i64 1))) .none 96 .none .false [] .false, .mk (.some 65) (.mv (.t 92)) .none 97 .none .false [] .false])))))))))))) (.reg 98 2 [.mk (.some 93) (.bin .add (.t 26) (.k (.int
  .i64 1))) .none 98 .none .false [] .false, .mk (.some 26) (.mv (.t 93)) .none 99 .none .false [] .false]))))))) (.seq (.reg 100 3 [.mk (.some 94) (.mv (.t 8)) .none 100 .none
  .false [] .false, .mk (.some 4) (.mv (.t 94)) .none 101 .none .false [] .false, .mk (.some 5) (.mv (.k (.int .i64 0))) .none 102 .none .false [] .false]) .ret)))))
def rs21 : List IRes := [.tmp 4, .tmp 5]
set_option maxRecDepth 100000 in
theorem comp21 : Comp Try.prog 21 ir21 rs21 95 := ⟨⟨_, _, 103, Try.func21, rfl, by kernel_rfl, by kernel_rfl, rfl⟩⟩
theorem body21 : HasBody Try.prog 21 := hasBody_of (by kernel_rfl)

def ir28 : IC :=
  .seq (.reg 0 4 [.mk (.some 2) (.box 38 (.t 0)) .none 0 .none .false [] .false, .mk (.some 3) (.box 40 (.t 1)) .none 1 .none .false [] .false, .mk (.some 4) (.mv (.k (.slice .none 0
  0))) .none 2 .none .false [] .false, .mk (.some 5) (.mv (.k (.int .i64 0))) .none 3 .none .false [] .false]) (.seq (.reg 4 9 [.mk (.some 12) (.load 3 .true (.t 2)) .none 4 .none
  .false [] .false, .mk (.some 13) (.load 2 .true (.t 3)) .none 5 .none .false [] .false, .mk (.some 14) (.call 44 [.t 12, .t 13]) .none 6 .none .false [] .false, .mk (.some 11)
  (.mv (.t 14)) .none 7 .none .false [] .false, .mk (.some 15) (.ext (.t 11) 0) .none 8 .none .false [] .false, .mk (.some 16) (.ext (.t 11) 1) .none 9 .none .false [] .false, .mk
  (.some 6) (.alloc 97 [.slice .none 0 0, .slice .none 0 0, .int .i64 0, .int .i64 0, .slice .none 0 0, .bool .false, .bool .false, .bool .false, .bool .false, .bool .false, .bool
  .false, .bool .false, .bool .false, .bool .false, .bool .false, .bool .false, .bool .false, .bool .false, .bool .false, .bool .false, .bool .false, .bool .false, .bool .false,
  .bool .false, .bool .false, .bool .false, .bool .false, .bool .false, .bool .false, .bool .false, .bool .false, .bool .false, .bool .false, .bool .false, .bool .false, .bool
  .false, .bool .false, .bool .false, .bool .false, .bool .false, .bool .false, .bool .false, .bool .false, .bool .false, .bool .false, .bool .false, .bool .false, .bool .false,
  .bool .false, .bool .false, .bool .false, .bool .false, .bool .false, .bool .false, .bool .false, .bool .false, .bool .false, .bool .false, .bool .false, .bool .false, .bool
  .false, .bool .false, .bool .false, .bool .false, .bool .false]) .none 10 .none .false [] .false, .mk .none (.store 65 (.t 6) (.t 15)) .none 11 .none .false [] .false, .mk (.some
  7) (.mv (.t 16)) .none 12 .none .false [] .false]) (.seq (.seq (.reg 13 2 [.mk (.some 17) (.mv (.t 7)) .none 13 .none .false [] .false, .mk (.some 18) (.bin .neq (.t 17) (.k (.int
  .i64 0))) .none 14 .none .false [] .false]) (.cond (.t 18) (.seq (.reg 15 3 [.mk (.some 19) (.mv (.t 7)) .none 15 .none .false [] .false, .mk (.some 4) (.mv (.k (.slice .none 0
  0))) .none 16 .none .false [] .false, .mk (.some 5) (.mv (.t 19)) .none 17 .none .false [] .false]) .ret) .skip)) (.seq (.reg 18 1 [.mk (.some 8) (.alloc 66 [.slice .none 0 0])
  .none 18 .none .false [] .false]) (.seq (.seq (.reg 19 2 [.mk (.some 20) (.load 65 .true (.t 6)) .none 19 .none .false [] .false, .mk (.some 21) (.call 45 [.t 20]) .none 20 .none
  .false [] .false]) (.block 0 (.range (.t 21) [22, 23] (.reg 21 2 [.mk (.some 10) (.alloc 79 [.string (ByteArray.mk (Array.mk [])), .int .i64 0]) .none 21 .none .false [] .false,
  .mk .none (.store 2 (.t 10) (.t 23)) .none 22 .none .false [] .false]) (.block 1 (.reg 23 5 [.mk (.some 24) (.load 1 .false (.t 8)) .none 23 .none .false [] .false, .mk (.some 25)
  (.load 2 .true (.t 10)) .none 24 .none .false [] .false, .mk (.some 26) (.bsl 79 2 1 [.string (ByteArray.mk (Array.mk [])), .int .i64 0] [(0, .t 25)]) .none 25 .none .false []
  .false, .mk (.some 27) (.app 79 2 24 (.t 24) (.t 26)) .none 26 .none .false [] .false, .mk .none (.store 1 (.t 8) (.t 27)) .none 27 .none .false [] .false]))))) (.seq (.reg 28 3
  [.mk (.some 28) (.load 1 .false (.t 8)) .none 28 .none .false [] .false, .mk (.some 4) (.mv (.t 28)) .none 29 .none .false [] .false, .mk (.some 5) (.mv (.k (.int .i64 0))) .none
  30 .none .false [] .false]) .ret)))))
def rs28 : List IRes := [.tmp 4, .tmp 5]
set_option maxRecDepth 100000 in
theorem comp28 : Comp Try.prog 28 ir28 rs28 29 := ⟨⟨_, _, 31, Try.func28, rfl, by kernel_rfl, by kernel_rfl, rfl⟩⟩
theorem body28 : HasBody Try.prog 28 := hasBody_of (by kernel_rfl)

def ir30 : IC :=
  .seq (.reg 0 2 [.mk (.some 1) (.box 38 (.t 0)) .none 0 .none .false [] .false, .mk (.some 2) (.mv (.k (.int .i64 0))) .none 1 .none .false [] .false]) (.seq (.reg 2 2 [.mk (.some 4)
  (.mkf 54 [] [.t 1]) .none 2 .none .false [] .false, .mk (.some 3) (.mv (.t 4)) .none 3 .none .false [] .false]) (.seq (.block 0 (.seq (.reg 4 17 [.mk (.some 6) (.faddr 0 (.t 1))
  .none 4 .none .false [] .false, .mk (.some 7) (.load 1 .false (.t 6)) .none 5 .none .false [] .false, .mk (.some 8) (.len (.t 7)) .none 6 .none .false [] .false, .mk (.some 9)
  (.bin .gtr (.t 8) (.k (.int .i64 60))) .none 7 .none .false [] .false, .mk (.some 10) (.mv (.t 9)) .none 8 .none .false [] .false, .mk (.some 11) (.faddr 1 (.t 1)) (.some (10,
  .false)) 9 .none .false [] .false, .mk (.some 12) (.load 1 .false (.t 11)) (.some (10, .false)) 10 .none .false [] .false, .mk (.some 13) (.len (.t 12)) (.some (10, .false)) 11
  .none .false [] .false, .mk (.some 14) (.bin .gtr (.t 13) (.k (.int .i64 12))) (.some (10, .false)) 12 .none .false [] .false, .mk (.some 15) (.pick (.t 10) (.k (.bool .true)) (.t
  14)) .none 13 .none .false [] .false, .mk (.some 16) (.mv (.t 15)) .none 14 .none .false [] .false, .mk (.some 17) (.faddr 0 (.t 1)) (.some (16, .false)) 15 .none .false []
  .false, .mk (.some 18) (.load 1 .false (.t 17)) (.some (16, .false)) 16 .none .false [] .false, .mk (.some 19) (.call 56 [.t 18, .f 57]) (.some (16, .false)) 17 .none .false []
  .false, .mk (.some 20) (.un .not (.t 19)) (.some (16, .false)) 18 .none .false [] .false, .mk (.some 21) (.pick (.t 16) (.k (.bool .true)) (.t 20)) .none 19 .none .false []
  .false, .mk (.some 5) (.mv (.t 21)) .none 20 .none .false [] .false]) (.cond (.t 5) (.seq (.reg 21 1 [.mk (.some 2) (.mv (.k (.int .i64 3))) .none 21 .none .false [] .false])
  .ret) (.seq (.reg 22 18 [.mk (.some 23) (.faddr 0 (.t 1)) .none 22 .none .false [] .false, .mk (.some 24) (.load 1 .false (.t 23)) .none 23 .none .false [] .false, .mk (.some 25)
  (.call 56 [.t 24, .f 58]) .none 24 .none .false [] .false, .mk (.some 26) (.un .not (.t 25)) .none 25 .none .false [] .false, .mk (.some 27) (.mv (.t 26)) .none 26 .none .false []
  .false, .mk (.some 28) (.faddr 1 (.t 1)) (.some (27, .false)) 27 .none .false [] .false, .mk (.some 29) (.load 1 .false (.t 28)) (.some (27, .false)) 28 .none .false [] .false,
  .mk (.some 30) (.mv (.t 3)) (.some (27, .false)) 29 .none .false [] .false, .mk (.some 31) (.call 59 [.t 29, .t 30]) (.some (27, .false)) 30 .none .false [] .false, .mk (.some 32)
  (.un .not (.t 31)) (.some (27, .false)) 31 .none .false [] .false, .mk (.some 33) (.pick (.t 27) (.k (.bool .true)) (.t 32)) .none 32 .none .false [] .false, .mk (.some 34) (.mv
  (.t 33)) .none 33 .none .false [] .false, .mk (.some 35) (.faddr 2 (.t 1)) (.some (34, .false)) 34 .none .false [] .false, .mk (.some 36) (.load 1 .false (.t 35)) (.some (34,
  .false)) 35 .none .false [] .false, .mk (.some 37) (.call 51 [.t 36, .k (.int .i64 1), .k (.int .i64 20)]) (.some (34, .false)) 36 .none .false [] .false, .mk (.some 38) (.un .not
  (.t 37)) (.some (34, .false)) 37 .none .false [] .false, .mk (.some 39) (.pick (.t 34) (.k (.bool .true)) (.t 38)) .none 38 .none .false [] .false, .mk (.some 22) (.mv (.t 39))
  .none 39 .none .false [] .false]) (.cond (.t 22) (.seq (.reg 40 1 [.mk (.some 2) (.mv (.k (.int .i64 1))) .none 40 .none .false [] .false]) .ret) .skip))))) (.seq (.reg 41 1 [.mk
  (.some 2) (.mv (.k (.int .i64 0))) .none 41 .none .false [] .false]) .ret)))
def rs30 : List IRes := [.tmp 2]
set_option maxRecDepth 100000 in
theorem comp30 : Comp Try.prog 30 ir30 rs30 40 := ⟨⟨_, _, 42, Try.func30, rfl, by kernel_rfl, by kernel_rfl, rfl⟩⟩
theorem body30 : HasBody Try.prog 30 := hasBody_of (by kernel_rfl)

def ir31 : IC :=
  .seq (.reg 0 5 [.mk (.some 3) (.box 38 (.t 0)) .none 0 .none .false [] .false, .mk (.some 4) (.box 40 (.t 1)) .none 1 .none .false [] .false, .mk (.some 5) (.box 3 (.t 2)) .none 2
  .none .false [] .false, .mk (.some 6) (.mv (.k (.int .i64 0))) .none 3 .none .false [] .false, .mk (.some 7) (.mv (.k (.int .i64 0))) .none 4 .none .false [] .false]) (.seq (.reg
  5 9 [.mk (.some 14) (.load 3 .true (.t 3)) .none 5 .none .false [] .false, .mk (.some 15) (.load 2 .true (.t 4)) .none 6 .none .false [] .false, .mk (.some 16) (.call 44 [.t 14,
  .t 15]) .none 7 .none .false [] .false, .mk (.some 13) (.mv (.t 16)) .none 8 .none .false [] .false, .mk (.some 17) (.ext (.t 13) 0) .none 9 .none .false [] .false, .mk (.some 18)
  (.ext (.t 13) 1) .none 10 .none .false [] .false, .mk (.some 8) (.alloc 97 [.slice .none 0 0, .slice .none 0 0, .int .i64 0, .int .i64 0, .slice .none 0 0, .bool .false, .bool
  .false, .bool .false, .bool .false, .bool .false, .bool .false, .bool .false, .bool .false, .bool .false, .bool .false, .bool .false, .bool .false, .bool .false, .bool .false,
  .bool .false, .bool .false, .bool .false, .bool .false, .bool .false, .bool .false, .bool .false, .bool .false, .bool .false, .bool .false, .bool .false, .bool .false, .bool
  .false, .bool .false, .bool .false, .bool .false, .bool .false, .bool .false, .bool .false, .bool .false, .bool .false, .bool .false, .bool .false, .bool .false, .bool .false,
  .bool .false, .bool .false, .bool .false, .bool .false, .bool .false, .bool .false, .bool .false, .bool .false, .bool .false, .bool .false, .bool .false, .bool .false, .bool
  .false, .bool .false, .bool .false, .bool .false, .bool .false, .bool .false, .bool .false, .bool .false, .bool .false]) .none 11 .none .false [] .false, .mk .none (.store 65 (.t
  8) (.t 17)) .none 12 .none .false [] .false, .mk (.some 9) (.mv (.t 18)) .none 13 .none .false [] .false]) (.seq (.seq (.reg 14 2 [.mk (.some 19) (.mv (.t 9)) .none 14 .none
  .false [] .false, .mk (.some 20) (.bin .neq (.t 19) (.k (.int .i64 0))) .none 15 .none .false [] .false]) (.cond (.t 20) (.seq (.reg 16 3 [.mk (.some 21) (.mv (.t 9)) .none 16
  .none .false [] .false, .mk (.some 6) (.mv (.k (.int .i64 0))) .none 17 .none .false [] .false, .mk (.some 7) (.mv (.t 21)) .none 18 .none .false [] .false]) .ret) .skip)) (.seq
  (.reg 19 4 [.mk (.some 10) (.alloc 3 [.int .i64 0]) .none 19 .none .false [] .false, .mk (.some 11) (.alloc 3 [.int .i64 0]) .none 20 .none .false [] .false, .mk .none (.store 1
  (.t 10) (.k (.int .i64 0))) .none 21 .none .false [] .false, .mk .none (.store 1 (.t 11) (.k (.int .i64 (-1)))) .none 22 .none .false [] .false]) (.seq .skip (.seq (.seq (.reg 23
  2 [.mk (.some 22) (.load 65 .true (.t 8)) .none 23 .none .false [] .false, .mk (.some 23) (.call 45 [.t 22]) .none 24 .none .false [] .false]) (.block 0 (.range (.t 23) [24, 25]
  (.reg 25 1 [.mk (.some 12) (.mv (.t 24)) .none 25 .none .false [] .false]) (.block 1 (.seq (.seq (.reg 26 3 [.mk (.some 26) (.load 1 .false (.t 10)) .none 26 .none .false []
  .false, .mk (.some 27) (.load 1 .false (.t 5)) .none 27 .none .false [] .false, .mk (.some 28) (.bin .eql (.t 26) (.t 27)) .none 28 .none .false [] .false]) (.cond (.t 28) (.seq
  (.reg 29 2 [.mk (.some 29) (.mv (.t 12)) .none 29 .none .false [] .false, .mk .none (.store 1 (.t 11) (.t 29)) .none 30 .none .false [] .false]) (.exit 0)) .skip)) (.reg 31 3 [.mk
  (.some 30) (.load 1 .false (.t 10)) .none 31 .none .false [] .false, .mk (.some 31) (.bin .add (.t 30) (.k (.int .i64 1))) .none 32 .none .false [] .false, .mk .none (.store 1 (.t
  10) (.t 31)) .none 33 .none .false [] .false])))))) (.seq (.seq (.reg 34 2 [.mk (.some 32) (.load 1 .false (.t 11)) .none 34 .none .false [] .false, .mk (.some 33) (.bin .eql (.t
  32) (.k (.int .i64 (-1)))) .none 35 .none .false [] .false]) (.cond (.t 33) (.seq (.reg 36 2 [.mk (.some 6) (.mv (.k (.int .i64 0))) .none 36 .none .false [] .false, .mk (.some 7)
  (.mv (.k (.int .i64 7))) .none 37 .none .false [] .false]) .ret) .skip)) (.seq (.reg 38 3 [.mk (.some 34) (.load 1 .false (.t 11)) .none 38 .none .false [] .false, .mk (.some 6)
  (.mv (.t 34)) .none 39 .none .false [] .false, .mk (.some 7) (.mv (.k (.int .i64 0))) .none 40 .none .false [] .false]) .ret)))))))
def rs31 : List IRes := [.tmp 6, .tmp 7]
set_option maxRecDepth 100000 in
theorem comp31 : Comp Try.prog 31 ir31 rs31 35 := ⟨⟨_, _, 41, Try.func31, rfl, by kernel_rfl, by kernel_rfl, rfl⟩⟩
theorem body31 : HasBody Try.prog 31 := hasBody_of (by kernel_rfl)

def ir36 : IC :=
  .seq (.reg 0 4 [.mk (.some 2) (.box 38 (.t 0)) .none 0 .none .false [] .false, .mk (.some 3) (.box 40 (.t 1)) .none 1 .none .false [] .false, .mk (.some 4) (.mv (.k (.slice .none 0
  0))) .none 2 .none .false [] .false, .mk (.some 5) (.mv (.k (.int .i64 0))) .none 3 .none .false [] .false]) (.seq (.reg 4 9 [.mk (.some 13) (.load 3 .true (.t 2)) .none 4 .none
  .false [] .false, .mk (.some 14) (.load 2 .true (.t 3)) .none 5 .none .false [] .false, .mk (.some 15) (.call 44 [.t 13, .t 14]) .none 6 .none .false [] .false, .mk (.some 12)
  (.mv (.t 15)) .none 7 .none .false [] .false, .mk (.some 16) (.ext (.t 12) 0) .none 8 .none .false [] .false, .mk (.some 17) (.ext (.t 12) 1) .none 9 .none .false [] .false, .mk
  (.some 6) (.alloc 97 [.slice .none 0 0, .slice .none 0 0, .int .i64 0, .int .i64 0, .slice .none 0 0, .bool .false, .bool .false, .bool .false, .bool .false, .bool .false, .bool
  .false, .bool .false, .bool .false, .bool .false, .bool .false, .bool .false, .bool .false, .bool .false, .bool .false, .bool .false, .bool .false, .bool .false, .bool .false,
  .bool .false, .bool .false, .bool .false, .bool .false, .bool .false, .bool .false, .bool .false, .bool .false, .bool .false, .bool .false, .bool .false, .bool .false, .bool
  .false, .bool .false, .bool .false, .bool .false, .bool .false, .bool .false, .bool .false, .bool .false, .bool .false, .bool .false, .bool .false, .bool .false, .bool .false,
  .bool .false, .bool .false, .bool .false, .bool .false, .bool .false, .bool .false, .bool .false, .bool .false, .bool .false, .bool .false, .bool .false, .bool .false, .bool
  .false, .bool .false, .bool .false, .bool .false, .bool .false]) .none 10 .none .false [] .false, .mk .none (.store 65 (.t 6) (.t 16)) .none 11 .none .false [] .false, .mk (.some
  7) (.mv (.t 17)) .none 12 .none .false [] .false]) (.seq (.seq (.reg 13 2 [.mk (.some 18) (.mv (.t 7)) .none 13 .none .false [] .false, .mk (.some 19) (.bin .neq (.t 18) (.k (.int
  .i64 0))) .none 14 .none .false [] .false]) (.cond (.t 19) (.seq (.reg 15 3 [.mk (.some 20) (.mv (.t 7)) .none 15 .none .false [] .false, .mk (.some 4) (.mv (.k (.slice .none 0
  0))) .none 16 .none .false [] .false, .mk (.some 5) (.mv (.t 20)) .none 17 .none .false [] .false]) .ret) .skip)) (.seq (.reg 18 1 [.mk (.some 8) (.mv (.k (.slice .none 0 0)))
  .none 18 .none .false [] .false]) (.seq (.reg 19 3 [.mk (.some 21) (.load 65 .true (.t 6)) .none 19 .none .false [] .false, .mk (.some 22) (.call 61 [.t 21]) .none 20 .none .false
  [] .false, .mk (.some 9) (.mv (.t 22)) .none 21 .none .false [] .false]) (.seq (.seq (.reg 22 3 [.mk (.some 23) (.mv (.t 9)) .none 22 .none .false [] .false, .mk (.some 24) (.len
  (.t 23)) .none 23 .none .false [] .false, .mk (.some 25) (.mv (.k (.int .i64 0))) .none 24 .none .false [] .false]) (.block 0 (.loop (.seq (.reg 25 1 [.mk (.some 26) (.bin .lss
  (.t 25) (.t 24)) .none 25 .none .false [] .false]) (.seq (.cond (.t 26) .skip (.exit 0)) (.seq (.block 1 (.seq (.reg 26 5 [.mk (.some 27) (.mv (.t 25)) .none 26 .none .false []
  .false, .mk (.some 28) (.iaddr 1 (.t 23) (.t 25)) .none 27 .none .false [] .false, .mk (.some 29) (.load 1 .false (.t 28)) .none 28 .none .false [] .false, .mk (.some 10) (.mv (.t
  27)) .none 29 .none .false [] .false, .mk (.some 11) (.mv (.t 29)) .none 30 .none .false [] .false]) (.seq (.draw 31 11 [6, 9] [] [.mk (.some 30) (.load 65 .true (.t 6)) .none 31
  (.some []) .true [] .false, .mk (.some 31) (.mv (.t 9)) .none 32 (.some []) .true [] .false, .mk (.some 32) (.call 64 [.t 31]) .none 33 (.some []) .true [] .false, .mk (.some 33)
  (.mv (.t 10)) .none 34 (.some []) .true [] .false, .mk (.some 34) (.mv (.t 10)) .none 35 (.some []) .true [] .false, .mk (.some 35) (.bin .add (.t 34) (.k (.int .i64 1))) .none 36
  (.some []) .true [] .false, .mk (.some 36) (.cut 63 (.t 32) [.t 33, .t 35]) .none 37 (.some [33]) .true [] .true, .mk (.some 37) (.call 62 [.t 30, .t 36]) .none 38 (.some [33])
  .false [] .false, .mk (.some 38) (.faddr 5 (.t 6)) .none 39 (.some []) .true [] .false, .mk (.some 39) (.load 60 .true (.t 38)) .none 40 (.some []) .true [] .false, .mk (.some 40)
  (.pur (.bin .eql 95) [.t 37, .t 39]) .none 41 (.some [33, 38]) .true [] .false]) (.cond (.t 40) (.reg 42 5 [.mk (.some 41) (.mv (.t 8)) .none 42 .none .false [] .false, .mk (.some
  42) (.mv (.t 11)) .none 43 .none .false [] .false, .mk (.some 43) (.bsl 3 1 1 [.int .i64 0] [(0, .t 42)]) .none 44 .none .false [] .false, .mk (.some 44) (.app 3 1 8 (.t 41) (.t
  43)) .none 45 .none .false [] .false, .mk (.some 8) (.mv (.t 44)) .none 46 .none .false [] .false]) .skip)))) (.reg 47 2 [.mk (.some 45) (.bin .add (.t 25) (.k (.int .i64 1)))
  .none 47 .none .false [] .false, .mk (.some 25) (.mv (.t 45)) .none 48 .none .false [] .false]))))))) (.seq (.reg 49 3 [.mk (.some 46) (.mv (.t 8)) .none 49 .none .false []
  .false, .mk (.some 4) (.mv (.t 46)) .none 50 .none .false [] .false, .mk (.some 5) (.mv (.k (.int .i64 0))) .none 51 .none .false [] .false]) .ret))))))
def rs36 : List IRes := [.tmp 4, .tmp 5]
set_option maxRecDepth 100000 in
theorem comp36 : Comp Try.prog 36 ir36 rs36 47 := ⟨⟨_, _, 52, Try.func36, rfl, by kernel_rfl, by kernel_rfl, rfl⟩⟩
theorem body36 : HasBody Try.prog 36 := hasBody_of (by kernel_rfl)

def ir37 : IC :=
  .seq (.reg 0 4 [.mk (.some 2) (.box 38 (.t 0)) .none 0 .none .false [] .false, .mk (.some 3) (.box 40 (.t 1)) .none 1 .none .false [] .false, .mk (.some 4) (.mv (.k (.int .i64 0)))
  .none 2 .none .false [] .false, .mk (.some 5) (.mv (.k (.int .i64 0))) .none 3 .none .false [] .false]) (.seq (.reg 4 9 [.mk (.some 12) (.load 3 .true (.t 2)) .none 4 .none .false
  [] .false, .mk (.some 13) (.load 2 .true (.t 3)) .none 5 .none .false [] .false, .mk (.some 14) (.call 44 [.t 12, .t 13]) .none 6 .none .false [] .false, .mk (.some 11) (.mv (.t
  14)) .none 7 .none .false [] .false, .mk (.some 15) (.ext (.t 11) 0) .none 8 .none .false [] .false, .mk (.some 16) (.ext (.t 11) 1) .none 9 .none .false [] .false, .mk (.some 6)
  (.alloc 97 [.slice .none 0 0, .slice .none 0 0, .int .i64 0, .int .i64 0, .slice .none 0 0, .bool .false, .bool .false, .bool .false, .bool .false, .bool .false, .bool .false,
  .bool .false, .bool .false, .bool .false, .bool .false, .bool .false, .bool .false, .bool .false, .bool .false, .bool .false, .bool .false, .bool .false, .bool .false, .bool
  .false, .bool .false, .bool .false, .bool .false, .bool .false, .bool .false, .bool .false, .bool .false, .bool .false, .bool .false, .bool .false, .bool .false, .bool .false,
  .bool .false, .bool .false, .bool .false, .bool .false, .bool .false, .bool .false, .bool .false, .bool .false, .bool .false, .bool .false, .bool .false, .bool .false, .bool
  .false, .bool .false, .bool .false, .bool .false, .bool .false, .bool .false, .bool .false, .bool .false, .bool .false, .bool .false, .bool .false, .bool .false, .bool .false,
  .bool .false, .bool .false, .bool .false, .bool .false]) .none 10 .none .false [] .false, .mk .none (.store 65 (.t 6) (.t 15)) .none 11 .none .false [] .false, .mk (.some 7) (.mv
  (.t 16)) .none 12 .none .false [] .false]) (.seq (.seq (.reg 13 2 [.mk (.some 17) (.mv (.t 7)) .none 13 .none .false [] .false, .mk (.some 18) (.bin .neq (.t 17) (.k (.int .i64
  0))) .none 14 .none .false [] .false]) (.cond (.t 18) (.seq (.reg 15 3 [.mk (.some 19) (.mv (.t 7)) .none 15 .none .false [] .false, .mk (.some 4) (.mv (.k (.int .i64 0))) .none
  16 .none .false [] .false, .mk (.some 5) (.mv (.t 19)) .none 17 .none .false [] .false]) .ret) .skip)) (.seq (.reg 18 4 [.mk (.some 20) (.load 65 .true (.t 6)) .none 18 .none
  .false [] .false, .mk (.some 21) (.call 61 [.t 20]) .none 19 .none .false [] .false, .mk (.some 8) (.alloc 26 [.slice .none 0 0]) .none 20 .none .false [] .false, .mk .none
  (.store 1 (.t 8) (.t 21)) .none 21 .none .false [] .false]) (.seq (.reg 22 1 [.mk (.some 9) (.alloc 121 [.nilFunc]) .none 22 .none .false [] .false]) (.seq (.reg 23 2 [.mk (.some
  22) (.mkf 65 [] [.t 6, .t 8, .t 9]) .none 23 .none .false [] .false, .mk .none (.store 1 (.t 9) (.t 22)) .none 24 .none .false [] .false]) (.seq (.reg 25 1 [.mk (.some 10) (.mv
  (.k (.int .i64 0))) .none 25 .none .false [] .false]) (.seq (.block 0 (.loop (.seq (.seq (.reg 26 4 [.mk (.some 23) (.load 1 .false (.t 9)) .none 26 .none .false [] .false, .mk
  (.some 24) (.mv (.t 10)) .none 27 .none .false [] .false, .mk (.some 25) (.callv (.t 23) [.k (.slice .none 0 0), .k (.int .i64 0), .t 24]) .none 28 .none .false [] .false, .mk
  (.some 26) (.un .not (.t 25)) .none 29 .none .false [] .false]) (.cond (.t 26) .skip (.exit 0))) (.block 1 (.reg 30 3 [.mk (.some 27) (.mv (.t 10)) .none 30 .none .false []
  .false, .mk (.some 28) (.bin .add (.t 27) (.k (.int .i64 1))) .none 31 .none .false [] .false, .mk (.some 10) (.mv (.t 28)) .none 32 .none .false [] .false]))))) (.seq (.reg 33 3
  [.mk (.some 29) (.mv (.t 10)) .none 33 .none .false [] .false, .mk (.some 4) (.mv (.t 29)) .none 34 .none .false [] .false, .mk (.some 5) (.mv (.k (.int .i64 0))) .none 35 .none
  .false [] .false]) .ret))))))))
def rs37 : List IRes := [.tmp 4, .tmp 5]
set_option maxRecDepth 100000 in
theorem comp37 : Comp Try.prog 37 ir37 rs37 30 := ⟨⟨_, _, 36, Try.func37, rfl, by kernel_rfl, by kernel_rfl, rfl⟩⟩
theorem body37 : HasBody Try.prog 37 := hasBody_of (by kernel_rfl)

def ir44 : IC :=
  .seq (.reg 0 4 [.mk (.some 2) (.box 38 (.t 0)) .none 0 .none .false [] .false, .mk (.some 3) (.box 40 (.t 1)) .none 1 .none .false [] .false, .mk (.some 4) (.alloc 97 [.slice .none
  0 0, .slice .none 0 0, .int .i64 0, .int .i64 0, .slice .none 0 0, .bool .false, .bool .false, .bool .false, .bool .false, .bool .false, .bool .false, .bool .false, .bool .false,
  .bool .false, .bool .false, .bool .false, .bool .false, .bool .false, .bool .false, .bool .false, .bool .false, .bool .false, .bool .false, .bool .false, .bool .false, .bool
  .false, .bool .false, .bool .false, .bool .false, .bool .false, .bool .false, .bool .false, .bool .false, .bool .false, .bool .false, .bool .false, .bool .false, .bool .false,
  .bool .false, .bool .false, .bool .false, .bool .false, .bool .false, .bool .false, .bool .false, .bool .false, .bool .false, .bool .false, .bool .false, .bool .false, .bool
  .false, .bool .false, .bool .false, .bool .false, .bool .false, .bool .false, .bool .false, .bool .false, .bool .false, .bool .false, .bool .false, .bool .false, .bool .false,
  .bool .false, .bool .false]) .none 2 .none .false [] .false, .mk (.some 5) (.mv (.k (.int .i64 0))) .none 3 .none .false [] .false]) (.seq (.seq (.reg 4 3 [.mk (.some 10) (.load 3
  .true (.t 2)) .none 4 .none .false [] .false, .mk (.some 11) (.call 30 [.t 10]) .none 5 .none .false [] .false, .mk (.some 6) (.mv (.t 11)) .none 6 .none .false [] .false]) (.seq
  (.reg 7 2 [.mk (.some 12) (.mv (.t 6)) .none 7 .none .false [] .false, .mk (.some 13) (.bin .neq (.t 12) (.k (.int .i64 0))) .none 8 .none .false [] .false]) (.cond (.t 13) (.seq
  (.reg 9 4 [.mk (.some 14) (.bld [(0, 3), (3, 2), (5, 60)] [.slice .none 0 0, .slice .none 0 0, .int .i64 0, .int .i64 0, .slice .none 0 0, .bool .false, .bool .false, .bool
  .false, .bool .false, .bool .false, .bool .false, .bool .false, .bool .false, .bool .false, .bool .false, .bool .false, .bool .false, .bool .false, .bool .false, .bool .false,
  .bool .false, .bool .false, .bool .false, .bool .false, .bool .false, .bool .false, .bool .false, .bool .false, .bool .false, .bool .false, .bool .false, .bool .false, .bool
  .false, .bool .false, .bool .false, .bool .false, .bool .false, .bool .false, .bool .false, .bool .false, .bool .false, .bool .false, .bool .false, .bool .false, .bool .false,
  .bool .false, .bool .false, .bool .false, .bool .false, .bool .false, .bool .false, .bool .false, .bool .false, .bool .false, .bool .false, .bool .false, .bool .false, .bool
  .false, .bool .false, .bool .false, .bool .false, .bool .false, .bool .false, .bool .false, .bool .false] []) .none 9 .none .false [] .false, .mk (.some 15) (.mv (.t 6)) .none 10
  .none .false [] .false, .mk .none (.store 65 (.t 4) (.t 14)) .none 11 .none .false [] .false, .mk (.some 5) (.mv (.t 15)) .none 12 .none .false [] .false]) .ret) .skip))) (.seq
  (.seq (.reg 13 10 [.mk (.some 16) (.faddr 0 (.t 3)) .none 13 .none .false [] .false, .mk (.some 17) (.load 1 .false (.t 16)) .none 14 .none .false [] .false, .mk (.some 18) (.call
  55 [.t 17]) .none 15 .none .false [] .false, .mk (.some 19) (.un .not (.t 18)) .none 16 .none .false [] .false, .mk (.some 20) (.mv (.t 19)) .none 17 .none .false [] .false, .mk
  (.some 21) (.faddr 1 (.t 3)) (.some (20, .false)) 18 .none .false [] .false, .mk (.some 22) (.load 1 .false (.t 21)) (.some (20, .false)) 19 .none .false [] .false, .mk (.some 23)
  (.call 67 [.t 22, .k (.int .i64 7)]) (.some (20, .false)) 20 .none .false [] .false, .mk (.some 24) (.un .not (.t 23)) (.some (20, .false)) 21 .none .false [] .false, .mk (.some
  25) (.pick (.t 20) (.k (.bool .true)) (.t 24)) .none 22 .none .false [] .false]) (.cond (.t 25) (.seq (.reg 23 3 [.mk (.some 26) (.bld [(0, 3), (3, 2), (5, 60)] [.slice .none 0 0,
  .slice .none 0 0, .int .i64 0, .int .i64 0, .slice .none 0 0, .bool .false, .bool .false, .bool .false, .bool .false, .bool .false, .bool .false, .bool .false, .bool .false, .bool
  .false, .bool .false, .bool .false, .bool .false, .bool .false, .bool .false, .bool .false, .bool .false, .bool .false, .bool .false, .bool .false, .bool .false, .bool .false,
  .bool .false, .bool .false, .bool .false, .bool .false, .bool .false, .bool .false, .bool .false, .bool .false, .bool .false, .bool .false, .bool .false, .bool .false, .bool
  .false, .bool .false, .bool .false, .bool .false, .bool .false, .bool .false, .bool .false, .bool .false, .bool .false, .bool .false, .bool .false, .bool .false, .bool .false,
  .bool .false, .bool .false, .bool .false, .bool .false, .bool .false, .bool .false, .bool .false, .bool .false, .bool .false, .bool .false, .bool .false, .bool .false, .bool
  .false, .bool .false] []) .none 23 .none .false [] .false, .mk .none (.store 65 (.t 4) (.t 26)) .none 24 .none .false [] .false, .mk (.some 5) (.mv (.k (.int .i64 2))) .none 25
  .none .false [] .false]) .ret) .skip)) (.seq (.reg 26 6 [.mk (.some 27) (.load 3 .true (.t 2)) .none 26 .none .false [] .false, .mk (.some 28) (.load 2 .true (.t 3)) .none 27
  .none .false [] .false, .mk (.some 29) (.bld [(0, 1), (1, 1), (2, 1), (3, 1), (4, 1), (5, 1), (6, 1), (7, 1), (8, 1), (9, 1), (10, 1), (11, 1), (12, 1), (13, 1), (14, 1), (15, 1),
  (16, 1), (17, 1), (18, 1), (19, 1), (20, 1), (21, 1), (22, 1), (23, 1), (24, 1), (25, 1), (26, 1), (27, 1), (28, 1), (29, 1), (30, 1), (31, 1), (32, 1), (33, 1), (34, 1), (35, 1),
  (36, 1), (37, 1), (38, 1), (39, 1), (40, 1), (41, 1), (42, 1), (43, 1), (44, 1), (45, 1), (46, 1), (47, 1), (48, 1), (49, 1), (50, 1), (51, 1), (52, 1), (53, 1), (54, 1), (55, 1),
  (56, 1), (57, 1), (58, 1), (59, 1)] [.bool .false, .bool .false, .bool .false, .bool .false, .bool .false, .bool .false, .bool .false, .bool .false, .bool .false, .bool .false,
  .bool .false, .bool .false, .bool .false, .bool .false, .bool .false, .bool .false, .bool .false, .bool .false, .bool .false, .bool .false, .bool .false, .bool .false, .bool
  .false, .bool .false, .bool .false, .bool .false, .bool .false, .bool .false, .bool .false, .bool .false, .bool .false, .bool .false, .bool .false, .bool .false, .bool .false,
  .bool .false, .bool .false, .bool .false, .bool .false, .bool .false, .bool .false, .bool .false, .bool .false, .bool .false, .bool .false, .bool .false, .bool .false, .bool
  .false, .bool .false, .bool .false, .bool .false, .bool .false, .bool .false, .bool .false, .bool .false, .bool .false, .bool .false, .bool .false, .bool .false, .bool .false] [])
  .none 28 .none .false [] .false, .mk (.some 30) (.bld [(0, 3), (3, 2), (5, 60)] [.slice .none 0 0, .slice .none 0 0, .int .i64 0, .int .i64 0, .slice .none 0 0, .bool .false,
  .bool .false, .bool .false, .bool .false, .bool .false, .bool .false, .bool .false, .bool .false, .bool .false, .bool .false, .bool .false, .bool .false, .bool .false, .bool
  .false, .bool .false, .bool .false, .bool .false, .bool .false, .bool .false, .bool .false, .bool .false, .bool .false, .bool .false, .bool .false, .bool .false, .bool .false,
  .bool .false, .bool .false, .bool .false, .bool .false, .bool .false, .bool .false, .bool .false, .bool .false, .bool .false, .bool .false, .bool .false, .bool .false, .bool
  .false, .bool .false, .bool .false, .bool .false, .bool .false, .bool .false, .bool .false, .bool .false, .bool .false, .bool .false, .bool .false, .bool .false, .bool .false,
  .bool .false, .bool .false, .bool .false, .bool .false, .bool .false, .bool .false, .bool .false, .bool .false, .bool .false] [(0, .t 27), (1, .t 28), (2, .t 29)]) .none 29 .none
  .false [] .false, .mk (.some 7) (.alloc 97 [.slice .none 0 0, .slice .none 0 0, .int .i64 0, .int .i64 0, .slice .none 0 0, .bool .false, .bool .false, .bool .false, .bool .false,
  .bool .false, .bool .false, .bool .false, .bool .false, .bool .false, .bool .false, .bool .false, .bool .false, .bool .false, .bool .false, .bool .false, .bool .false, .bool
  .false, .bool .false, .bool .false, .bool .false, .bool .false, .bool .false, .bool .false, .bool .false, .bool .false, .bool .false, .bool .false, .bool .false, .bool .false,
  .bool .false, .bool .false, .bool .false, .bool .false, .bool .false, .bool .false, .bool .false, .bool .false, .bool .false, .bool .false, .bool .false, .bool .false, .bool
  .false, .bool .false, .bool .false, .bool .false, .bool .false, .bool .false, .bool .false, .bool .false, .bool .false, .bool .false, .bool .false, .bool .false, .bool .false,
  .bool .false, .bool .false, .bool .false, .bool .false, .bool .false, .bool .false]) .none 30 .none .false [] .false, .mk .none (.store 65 (.t 7) (.t 30)) .none 31 .none .false []
  .false]) (.seq (.seq (.reg 32 4 [.mk (.some 31) (.faddr 1 (.t 2)) .none 32 .none .false [] .false, .mk (.some 32) (.load 1 .false (.t 31)) .none 33 .none .false [] .false, .mk
  (.some 33) (.len (.t 32)) .none 34 .none .false [] .false, .mk (.some 34) (.mv (.k (.int .i64 0))) .none 35 .none .false [] .false]) (.block 0 (.loop (.seq (.reg 36 1 [.mk (.some
  35) (.bin .lss (.t 34) (.t 33)) .none 36 .none .false [] .false]) (.seq (.cond (.t 35) .skip (.exit 0)) (.seq (.block 1 (.seq (.reg 37 4 [.mk (.some 36) (.iaddr 4 (.t 32) (.t 34))
  .none 37 .none .false [] .false, .mk (.some 37) (.load 4 .true (.t 36)) .none 38 .none .false [] .false, .mk (.some 9) (.alloc 65 [.int .i64 0, .int .i64 0, .int .i64 0, .int .i64
  0]) .none 39 .none .false [] .false, .mk .none (.store 4 (.t 9) (.t 37)) .none 40 .none .false [] .false]) (.seq (.reg 41 3 [.mk (.some 38) (.load 65 .true (.t 7)) .none 41 .none
  .false [] .false, .mk (.some 39) (.load 4 .true (.t 9)) .none 42 .none .false [] .false, .mk (.some 40) (.call 68 [.t 38, .t 39]) .none 43 .none .false [] .false]) (.cond (.t 40)
  (.reg 44 3 [.mk (.some 41) (.faddr 5 (.t 7)) .none 44 .none .false [] .false, .mk (.some 42) (.load 4 .true (.t 9)) .none 45 .none .false [] .false, .mk (.some 43) (.call 69 [.t
  41, .t 42]) .none 46 .none .false [] .false]) .skip)))) (.reg 47 2 [.mk (.some 44) (.bin .add (.t 34) (.k (.int .i64 1))) .none 47 .none .false [] .false, .mk (.some 34) (.mv (.t
  44)) .none 48 .none .false [] .false]))))))) (.seq (.reg 49 3 [.mk (.some 45) (.load 65 .true (.t 7)) .none 49 .none .false [] .false, .mk .none (.store 65 (.t 4) (.t 45)) .none
  50 .none .false [] .false, .mk (.some 5) (.mv (.k (.int .i64 0))) .none 51 .none .false [] .false]) .ret)))))
def rs44 : List IRes := [.cell 4 65 .true, .tmp 5]
set_option maxRecDepth 100000 in
theorem comp44 : Comp Try.prog 44 ir44 rs44 46 := ⟨⟨_, _, 52, Try.func44, rfl, by kernel_rfl, by kernel_rfl, rfl⟩⟩
theorem body44 : HasBody Try.prog 44 := hasBody_of (by kernel_rfl)

def ir45 : IC :=
  .seq (.reg 0 2 [.mk (.some 1) (.box 97 (.t 0)) .none 0 .none .false [] .false, .mk (.some 2) (.mv (.k .nilFunc)) .none 1 .none .false [] .false]) (.seq (.reg 2 2 [.mk (.some 3)
  (.mkf 70 [] [.t 1]) .none 2 .none .false [] .false, .mk (.some 2) (.mv (.t 3)) .none 3 .none .false [] .false]) .ret)
def rs45 : List IRes := [.tmp 2]
set_option maxRecDepth 100000 in
theorem comp45 : Comp Try.prog 45 ir45 rs45 4 := ⟨⟨_, _, 4, Try.func45, rfl, by kernel_rfl, by kernel_rfl, rfl⟩⟩
theorem body45 : HasBody Try.prog 45 := hasBody_of (by kernel_rfl)

def ir46 : IC :=
  .seq (.reg 0 1 [.mk (.some 4) (.mv (.k (.bool .false))) .none 0 .none .false [] .false]) (.seq (.reg 1 5 [.mk (.some 5) (.mv (.t 0)) .none 1 .none .false [] .false, .mk (.some 6)
  (.mv (.t 1)) .none 2 .none .false [] .false, .mk (.some 7) (.call 71 [.t 5, .t 6]) .none 3 .none .false [] .false, .mk (.some 8) (.bin .geq (.t 7) (.k (.int .i64 0))) .none 4
  .none .false [] .false, .mk (.some 4) (.mv (.t 8)) .none 5 .none .false [] .false]) .ret)
def rs46 : List IRes := [.tmp 4]
set_option maxRecDepth 100000 in
theorem comp46 : Comp Try.prog 46 ir46 rs46 9 := ⟨⟨_, _, 6, Try.func46, rfl, by kernel_rfl, by kernel_rfl, rfl⟩⟩
theorem body46 : HasBody Try.prog 46 := hasBody_of (by kernel_rfl)

def ir50 : IC :=
  .seq (.reg 0 3 [.mk (.some 2) (.box 97 (.t 0)) .none 0 .none .false [] .false, .mk (.some 3) (.box 65 (.t 1)) .none 1 .none .false [] .false, .mk (.some 4) (.mv (.k (.bool .false)))
  .none 2 .none .false [] .false]) (.seq (.reg 3 8 [.mk (.some 5) (.faddr 3 (.t 2)) .none 3 .none .false [] .false, .mk (.some 6) (.faddr 1 (.t 5)) .none 4 .none .false [] .false,
  .mk (.some 7) (.load 1 .false (.t 6)) .none 5 .none .false [] .false, .mk (.some 8) (.faddr 2 (.t 3)) .none 6 .none .false [] .false, .mk (.some 9) (.load 1 .false (.t 8)) .none 7
  .none .false [] .false, .mk (.some 10) (.call 46 [.t 7, .t 9]) .none 8 .none .false [] .false, .mk (.some 11) (.un .not (.t 10)) .none 9 .none .false [] .false, .mk (.some 4) (.mv
  (.t 11)) .none 10 .none .false [] .false]) .ret)
def rs50 : List IRes := [.tmp 4]
set_option maxRecDepth 100000 in
theorem comp50 : Comp Try.prog 50 ir50 rs50 12 := ⟨⟨_, _, 11, Try.func50, rfl, by kernel_rfl, by kernel_rfl, rfl⟩⟩
theorem body50 : HasBody Try.prog 50 := hasBody_of (by kernel_rfl)

def ir51 : IC :=
  .seq (.reg 0 1 [.mk (.some 6) (.mv (.k (.bool .false))) .none 0 .none .false [] .false]) (.seq (.reg 1 9 [.mk (.some 7) (.mv (.t 1)) .none 1 .none .false [] .false, .mk (.some 8)
  (.mv (.t 0)) .none 2 .none .false [] .false, .mk (.some 9) (.bin .leq (.t 7) (.t 8)) .none 3 .none .false [] .false, .mk (.some 10) (.mv (.t 9)) .none 4 .none .false [] .false,
  .mk (.some 11) (.mv (.t 0)) (.some (10, .true)) 5 .none .false [] .false, .mk (.some 12) (.mv (.t 2)) (.some (10, .true)) 6 .none .false [] .false, .mk (.some 13) (.bin .leq (.t
  11) (.t 12)) (.some (10, .true)) 7 .none .false [] .false, .mk (.some 14) (.pick (.t 10) (.t 13) (.k (.bool .false))) .none 8 .none .false [] .false, .mk (.some 6) (.mv (.t 14))
  .none 9 .none .false [] .false]) .ret)
def rs51 : List IRes := [.tmp 6]
set_option maxRecDepth 100000 in
theorem comp51 : Comp Try.prog 51 ir51 rs51 15 := ⟨⟨_, _, 10, Try.func51, rfl, by kernel_rfl, by kernel_rfl, rfl⟩⟩
theorem body51 : HasBody Try.prog 51 := hasBody_of (by kernel_rfl)

def ir52 : IC :=
  .seq (.reg 0 1 [.mk (.some 2) (.mv (.k (.int .i64 0))) .none 0 .none .false [] .false]) (.seq (.reg 1 3 [.mk (.some 3) (.mv (.t 0)) .none 1 .none .false [] .false, .mk (.some 4)
  (.call 75 [.t 3]) .none 2 .none .false [] .false, .mk (.some 2) (.mv (.t 4)) .none 3 .none .false [] .false]) .ret)
def rs52 : List IRes := [.tmp 2]
set_option maxRecDepth 100000 in
theorem comp52 : Comp Try.prog 52 ir52 rs52 5 := ⟨⟨_, _, 4, Try.func52, rfl, by kernel_rfl, by kernel_rfl, rfl⟩⟩
theorem body52 : HasBody Try.prog 52 := hasBody_of (by kernel_rfl)

def ir55 : IC :=
  .seq (.reg 0 1 [.mk (.some 2) (.mv (.k (.bool .false))) .none 0 .none .false [] .false]) (.seq (.reg 1 3 [.mk (.some 3) (.mv (.t 0)) .none 1 .none .false [] .false, .mk (.some 4)
  (.call 51 [.t 3, .k (.int .i64 0), .k (.int .i64 9999)]) .none 2 .none .false [] .false, .mk (.some 2) (.mv (.t 4)) .none 3 .none .false [] .false]) .ret)
def rs55 : List IRes := [.tmp 2]
set_option maxRecDepth 100000 in
theorem comp55 : Comp Try.prog 55 ir55 rs55 5 := ⟨⟨_, _, 4, Try.func55, rfl, by kernel_rfl, by kernel_rfl, rfl⟩⟩
theorem body55 : HasBody Try.prog 55 := hasBody_of (by kernel_rfl)

def ir56 : IC :=
  .seq (.reg 0 2 [.mk (.some 3) (.box 116 (.t 1)) .none 0 .none .false [] .false, .mk (.some 4) (.mv (.k (.bool .false))) .none 1 .none .false [] .false]) (.seq (.reg 2 5 [.mk (.some
  5) (.mv (.t 0)) .none 2 .none .false [] .false, .mk (.some 6) (.mkf 77 [] [.t 3]) .none 3 .none .false [] .false, .mk (.some 7) (.call 76 [.t 5, .t 6]) .none 4 .none .false []
  .false, .mk (.some 8) (.un .not (.t 7)) .none 5 .none .false [] .false, .mk (.some 4) (.mv (.t 8)) .none 6 .none .false [] .false]) .ret)
def rs56 : List IRes := [.tmp 4]
set_option maxRecDepth 100000 in
theorem comp56 : Comp Try.prog 56 ir56 rs56 9 := ⟨⟨_, _, 7, Try.func56, rfl, by kernel_rfl, by kernel_rfl, rfl⟩⟩
theorem body56 : HasBody Try.prog 56 := hasBody_of (by kernel_rfl)

def ir59 : IC :=
  .seq (.reg 1 2 [.mk (.some 3) (.box 111 (.t 1)) .none 1 .none .false [] .false, .mk (.some 4) (.mv (.k (.bool .false))) .none 2 .none .false [] .false]) (.seq (.reg 3 5 [.mk (.some
  5) (.mv (.t 0)) .none 3 .none .false [] .false, .mk (.some 6) (.mkf 81 [] [.t 3]) .none 4 .none .false [] .false, .mk (.some 7) (.call 80 [.t 5, .t 6]) .none 5 .none .false []
  .false, .mk (.some 8) (.un .not (.t 7)) .none 6 .none .false [] .false, .mk (.some 4) (.mv (.t 8)) .none 7 .none .false [] .false]) .ret)
def rs59 : List IRes := [.tmp 4]
set_option maxRecDepth 100000 in
theorem comp59 : CompAt Try.prog 59 1 ir59 rs59 9 := ⟨⟨_, _, 8, Try.func59, rfl, by kernel_rfl, by kernel_rfl, rfl⟩⟩
theorem body59 : HasBody Try.prog 59 := hasBody_of (by kernel_rfl)

def ir61 : IC :=
  .seq (.reg 0 2 [.mk (.some 1) (.box 97 (.t 0)) .none 0 .none .false [] .false, .mk (.some 2) (.mv (.k (.slice .none 0 0))) .none 1 .none .false [] .false]) (.seq (.reg 2 3 [.mk
  (.some 6) (.load 65 .true (.t 1)) .none 2 .none .false [] .false, .mk (.some 7) (.mkf 68 [.t 6] []) .none 3 .none .false [] .false, .mk (.some 3) (.mv (.t 7)) .none 4 .none .false
  [] .false]) (.seq (.seq (.reg 5 5 [.mk (.some 8) (.faddr 0 (.t 1)) .none 5 .none .false [] .false, .mk (.some 9) (.faddr 1 (.t 8)) .none 6 .none .false [] .false, .mk (.some 10)
  (.load 1 .false (.t 9)) .none 7 .none .false [] .false, .mk (.some 11) (.len (.t 10)) .none 8 .none .false [] .false, .mk (.some 12) (.mv (.k (.int .i64 0))) .none 9 .none .false
  [] .false]) (.block 0 (.loop (.seq (.reg 10 1 [.mk (.some 13) (.bin .lss (.t 12) (.t 11)) .none 10 .none .false [] .false]) (.seq (.cond (.t 13) .skip (.exit 0)) (.seq (.block 1
  (.seq (.reg 11 6 [.mk (.some 14) (.mv (.t 12)) .none 11 .none .false [] .false, .mk (.some 15) (.iaddr 4 (.t 10) (.t 12)) .none 12 .none .false [] .false, .mk (.some 16) (.load 4
  .true (.t 15)) .none 13 .none .false [] .false, .mk (.some 5) (.alloc 65 [.int .i64 0, .int .i64 0, .int .i64 0, .int .i64 0]) .none 14 .none .false [] .false, .mk (.some 4) (.mv
  (.t 14)) .none 15 .none .false [] .false, .mk .none (.store 4 (.t 5) (.t 16)) .none 16 .none .false [] .false]) (.seq (.reg 17 3 [.mk (.some 17) (.mv (.t 3)) .none 17 .none .false
  [] .false, .mk (.some 18) (.load 4 .true (.t 5)) .none 18 .none .false [] .false, .mk (.some 19) (.callv (.t 17) [.t 18]) .none 19 .none .false [] .false]) (.cond (.t 19) (.reg 20
  5 [.mk (.some 20) (.mv (.t 2)) .none 20 .none .false [] .false, .mk (.some 21) (.mv (.t 4)) .none 21 .none .false [] .false, .mk (.some 22) (.bsl 3 1 1 [.int .i64 0] [(0, .t 21)])
  .none 22 .none .false [] .false, .mk (.some 23) (.app 3 1 8 (.t 20) (.t 22)) .none 23 .none .false [] .false, .mk (.some 2) (.mv (.t 23)) .none 24 .none .false [] .false])
  .skip)))) (.reg 25 2 [.mk (.some 24) (.bin .add (.t 12) (.k (.int .i64 1))) .none 25 .none .false [] .false, .mk (.some 12) (.mv (.t 24)) .none 26 .none .false [] .false])))))))
  (.seq (.reg 27 2 [.mk (.some 25) (.mv (.t 2)) .none 27 .none .false [] .false, .mk (.some 2) (.mv (.t 25)) .none 28 .none .false [] .false]) .ret)))
def rs61 : List IRes := [.tmp 2]
set_option maxRecDepth 100000 in
theorem comp61 : Comp Try.prog 61 ir61 rs61 26 := ⟨⟨_, _, 29, Try.func61, rfl, by kernel_rfl, by kernel_rfl, rfl⟩⟩
theorem body61 : HasBody Try.prog 61 := hasBody_of (by kernel_rfl)

def ir62 : IC :=
  .seq (.reg 0 2 [.mk (.some 2) (.box 97 (.t 0)) .none 0 .none .false [] .false, .mk (.some 4) (.alloc 95 [.bool .false, .bool .false, .bool .false, .bool .false, .bool .false, .bool
  .false, .bool .false, .bool .false, .bool .false, .bool .false, .bool .false, .bool .false, .bool .false, .bool .false, .bool .false, .bool .false, .bool .false, .bool .false,
  .bool .false, .bool .false, .bool .false, .bool .false, .bool .false, .bool .false, .bool .false, .bool .false, .bool .false, .bool .false, .bool .false, .bool .false, .bool
  .false, .bool .false, .bool .false, .bool .false, .bool .false, .bool .false, .bool .false, .bool .false, .bool .false, .bool .false, .bool .false, .bool .false, .bool .false,
  .bool .false, .bool .false, .bool .false, .bool .false, .bool .false, .bool .false, .bool .false, .bool .false, .bool .false, .bool .false, .bool .false, .bool .false, .bool
  .false, .bool .false, .bool .false, .bool .false, .bool .false]) .none 1 .none .false [] .false]) (.seq (.seq (.reg 2 3 [.mk (.some 7) (.mv (.t 1)) .none 2 .none .false [] .false,
  .mk (.some 8) (.len (.t 7)) .none 3 .none .false [] .false, .mk (.some 9) (.mv (.k (.int .i64 0))) .none 4 .none .false [] .false]) (.block 0 (.loop (.seq (.reg 5 1 [.mk (.some
  10) (.bin .lss (.t 9) (.t 8)) .none 5 .none .false [] .false]) (.seq (.cond (.t 10) .skip (.exit 0)) (.seq (.block 1 (.seq (.reg 6 3 [.mk (.some 11) (.iaddr 1 (.t 7) (.t 9)) .none
  6 .none .false [] .false, .mk (.some 12) (.load 1 .false (.t 11)) .none 7 .none .false [] .false, .mk (.some 6) (.mv (.t 12)) .none 8 .none .false [] .false]) (.reg 9 7 [.mk
  (.some 13) (.faddr 0 (.t 2)) .none 9 .none .false [] .false, .mk (.some 14) (.faddr 1 (.t 13)) .none 10 .none .false [] .false, .mk (.some 15) (.load 1 .false (.t 14)) .none 11
  .none .false [] .false, .mk (.some 16) (.mv (.t 6)) .none 12 .none .false [] .false, .mk (.some 17) (.iaddr 4 (.t 15) (.t 16)) .none 13 .none .false [] .false, .mk (.some 18)
  (.load 4 .true (.t 17)) .none 14 .none .false [] .false, .mk (.some 19) (.call 69 [.t 4, .t 18]) .none 15 .none .false [] .false]))) (.reg 16 2 [.mk (.some 20) (.bin .add (.t 9)
  (.k (.int .i64 1))) .none 16 .none .false [] .false, .mk (.some 9) (.mv (.t 20)) .none 17 .none .false [] .false]))))))) (.seq (.reg 18 2 [.mk (.some 21) (.load 60 .true (.t 4))
  .none 18 .none .false [] .false, .mk .none (.store 60 (.t 4) (.t 21)) .none 19 .none .false [] .false]) .ret))
def rs62 : List IRes := [.cell 4 60 .true]
set_option maxRecDepth 100000 in
theorem comp62 : Comp Try.prog 62 ir62 rs62 22 := ⟨⟨_, _, 20, Try.func62, rfl, by kernel_rfl, by kernel_rfl, rfl⟩⟩
theorem body62 : HasBody Try.prog 62 := hasBody_of (by kernel_rfl)

def ir64 : IC :=
  .seq (.reg 0 1 [.mk (.some 2) (.mv (.k (.slice .none 0 0))) .none 0 .none .false [] .false]) (.seq (.seq (.reg 1 2 [.mk (.some 3) (.mv (.t 0)) .none 1 .none .false [] .false, .mk
  (.some 4) (.pur (.bin .eql 26) [.t 3, .k (.slice .none 0 0)]) .none 2 .none .false [] .false]) (.cond (.t 4) (.seq (.reg 3 1 [.mk (.some 2) (.mv (.k (.slice .none 0 0))) .none 3
  .none .false [] .false]) .ret) .skip)) (.seq (.reg 4 4 [.mk (.some 5) (.bsl 3 1 0 [] []) .none 4 .none .false [] .false, .mk (.some 6) (.mv (.t 0)) .none 5 .none .false [] .false,
  .mk (.some 7) (.app 3 1 8 (.t 5) (.t 6)) .none 6 .none .false [] .false, .mk (.some 2) (.mv (.t 7)) .none 7 .none .false [] .false]) .ret))
def rs64 : List IRes := [.tmp 2]
set_option maxRecDepth 100000 in
theorem comp64 : Comp Try.prog 64 ir64 rs64 8 := ⟨⟨_, _, 8, Try.func64, rfl, by kernel_rfl, by kernel_rfl, rfl⟩⟩
theorem body64 : HasBody Try.prog 64 := hasBody_of (by kernel_rfl)

def ir67 : IC :=
  .seq (.reg 0 1 [.mk (.some 4) (.mv (.k (.bool .false))) .none 0 .none .false [] .false]) (.seq (.seq (.reg 1 3 [.mk (.some 7) (.mv (.t 0)) .none 1 .none .false [] .false, .mk (.some
  8) (.len (.t 7)) .none 2 .none .false [] .false, .mk (.some 9) (.mv (.k (.int .i64 0))) .none 3 .none .false [] .false]) (.block 0 (.loop (.seq (.reg 4 1 [.mk (.some 10) (.bin
  .lss (.t 9) (.t 8)) .none 4 .none .false [] .false]) (.seq (.cond (.t 10) .skip (.exit 0)) (.seq (.block 1 (.seq (.reg 5 5 [.mk (.some 11) (.mv (.t 9)) .none 5 .none .false []
  .false, .mk (.some 12) (.iaddr 1 (.t 7) (.t 9)) .none 6 .none .false [] .false, .mk (.some 13) (.load 1 .false (.t 12)) .none 7 .none .false [] .false, .mk (.some 5) (.mv (.t 11))
  .none 8 .none .false [] .false, .mk (.some 6) (.mv (.t 13)) .none 9 .none .false [] .false]) (.seq (.reg 10 17 [.mk (.some 14) (.mv (.t 6)) .none 10 .none .false [] .false, .mk
  (.some 15) (.mv (.t 1)) .none 11 .none .false [] .false, .mk (.some 16) (.call 51 [.t 14, .k (.int .i64 0), .t 15]) .none 12 .none .false [] .false, .mk (.some 17) (.un .not (.t
  16)) .none 13 .none .false [] .false, .mk (.some 18) (.mv (.t 17)) .none 14 .none .false [] .false, .mk (.some 19) (.mv (.t 5)) (.some (18, .false)) 15 .none .false [] .false, .mk
  (.some 20) (.bin .gtr (.t 19) (.k (.int .i64 0))) (.some (18, .false)) 16 .none .false [] .false, .mk (.some 21) (.mv (.t 20)) (.some (18, .false)) 17 .none .false [] .false, .mk
  (.some 22) (.mv (.t 6)) (.some (21, .true)) 18 .none .false [] .false, .mk (.some 23) (.mv (.t 0)) (.some (21, .true)) 19 .none .false [] .false, .mk (.some 24) (.mv (.t 5))
  (.some (21, .true)) 20 .none .false [] .false, .mk (.some 25) (.bin .sub (.t 24) (.k (.int .i64 1))) (.some (21, .true)) 21 .none .false [] .false, .mk (.some 26) (.iaddr 1 (.t
  23) (.t 25)) (.some (21, .true)) 22 .none .false [] .false, .mk (.some 27) (.load 1 .false (.t 26)) (.some (21, .true)) 23 .none .false [] .false, .mk (.some 28) (.bin .leq (.t
  22) (.t 27)) (.some (21, .true)) 24 .none .false [] .false, .mk (.some 29) (.pick (.t 21) (.t 28) (.k (.bool .false))) (.some (18, .false)) 25 .none .false [] .false, .mk (.some
  30) (.pick (.t 18) (.k (.bool .true)) (.t 29)) .none 26 .none .false [] .false]) (.cond (.t 30) (.seq (.reg 27 1 [.mk (.some 4) (.mv (.k (.bool .false))) .none 27 .none .false []
  .false]) .ret) .skip)))) (.reg 28 2 [.mk (.some 31) (.bin .add (.t 9) (.k (.int .i64 1))) .none 28 .none .false [] .false, .mk (.some 9) (.mv (.t 31)) .none 29 .none .false []
  .false]))))))) (.seq (.reg 30 1 [.mk (.some 4) (.mv (.k (.bool .true))) .none 30 .none .false [] .false]) .ret))
def rs67 : List IRes := [.tmp 4]
set_option maxRecDepth 100000 in
theorem comp67 : Comp Try.prog 67 ir67 rs67 32 := ⟨⟨_, _, 31, Try.func67, rfl, by kernel_rfl, by kernel_rfl, rfl⟩⟩
theorem body67 : HasBody Try.prog 67 := hasBody_of (by kernel_rfl)

def ir68 : IC :=
  .seq (.reg 0 3 [.mk (.some 2) (.box 97 (.t 0)) .none 0 .none .false [] .false, .mk (.some 3) (.box 65 (.t 1)) .none 1 .none .false [] .false, .mk (.some 4) (.mv (.k (.bool .false)))
  .none 2 .none .false [] .false]) (.seq (.reg 3 12 [.mk (.some 5) (.faddr 3 (.t 2)) .none 3 .none .false [] .false, .mk (.some 6) (.faddr 0 (.t 5)) .none 4 .none .false [] .false,
  .mk (.some 7) (.load 1 .false (.t 6)) .none 5 .none .false [] .false, .mk (.some 8) (.faddr 3 (.t 3)) .none 6 .none .false [] .false, .mk (.some 9) (.load 1 .false (.t 8)) .none 7
  .none .false [] .false, .mk (.some 10) (.bin .lss (.t 7) (.t 9)) .none 8 .none .false [] .false, .mk (.some 11) (.mv (.t 10)) .none 9 .none .false [] .false, .mk (.some 12) (.load
  65 .true (.t 2)) (.some (11, .true)) 10 .none .false [] .false, .mk (.some 13) (.load 4 .true (.t 3)) (.some (11, .true)) 11 .none .false [] .false, .mk (.some 14) (.call 50 [.t
  12, .t 13]) (.some (11, .true)) 12 .none .false [] .false, .mk (.some 15) (.pick (.t 11) (.t 14) (.k (.bool .false))) .none 13 .none .false [] .false, .mk (.some 4) (.mv (.t 15))
  .none 14 .none .false [] .false]) .ret)
def rs68 : List IRes := [.tmp 4]
set_option maxRecDepth 100000 in
theorem comp68 : Comp Try.prog 68 ir68 rs68 16 := ⟨⟨_, _, 15, Try.func68, rfl, by kernel_rfl, by kernel_rfl, rfl⟩⟩
theorem body68 : HasBody Try.prog 68 := hasBody_of (by kernel_rfl)

def ir69 : IC :=
  .seq (.reg 1 1 [.mk (.some 3) (.box 65 (.t 1)) .none 1 .none .false [] .false]) (.seq (.reg 2 3 [.mk (.some 5) (.faddr 0 (.t 3)) .none 2 .none .false [] .false, .mk (.some 6) (.load
  1 .false (.t 5)) .none 3 .none .false [] .false, .mk (.some 4) (.mv (.t 6)) .none 4 .none .false [] .false]) (.block 0 (.loop (.seq (.seq (.reg 5 4 [.mk (.some 7) (.mv (.t 4))
  .none 5 .none .false [] .false, .mk (.some 8) (.faddr 1 (.t 3)) .none 6 .none .false [] .false, .mk (.some 9) (.load 1 .false (.t 8)) .none 7 .none .false [] .false, .mk (.some
  10) (.bin .lss (.t 7) (.t 9)) .none 8 .none .false [] .false]) (.cond (.t 10) .skip (.exit 0))) (.seq (.block 1 (.reg 9 5 [.mk (.some 13) (.mv (.t 0)) .none 9 .none .false []
  .false, .mk (.some 14) (.mv (.t 4)) .none 10 .none .false [] .false, .mk (.some 15) (.nilc (.t 13)) .none 11 .none .false [] .false, .mk (.some 16) (.aaddr 1 60 (.t 15) (.t 14))
  .none 12 .none .false [] .false, .mk .none (.store 1 (.t 16) (.k (.bool .true))) .none 13 .none .false [] .false])) (.reg 14 3 [.mk (.some 11) (.mv (.t 4)) .none 14 .none .false
  [] .false, .mk (.some 12) (.bin .add (.t 11) (.k (.int .i64 1))) .none 15 .none .false [] .false, .mk (.some 4) (.mv (.t 12)) .none 16 .none .false [] .false]))))))
def rs69 : List IRes := []
set_option maxRecDepth 100000 in
theorem comp69 : CompAt Try.prog 69 1 ir69 rs69 17 := ⟨⟨_, _, 17, Try.func69, rfl, by kernel_rfl, by kernel_rfl, rfl⟩⟩
theorem body69 : HasBody Try.prog 69 := hasBody_of (by kernel_rfl)

def ir71 : IC :=
  .seq (.reg 0 1 [.mk (.some 4) (.mv (.k (.int .i64 0))) .none 0 .none .false [] .false]) (.seq (.seq (.reg 1 3 [.mk (.some 6) (.mv (.t 0)) .none 1 .none .false [] .false, .mk (.some
  7) (.len (.t 6)) .none 2 .none .false [] .false, .mk (.some 8) (.mv (.k (.int .i64 0))) .none 3 .none .false [] .false]) (.block 0 (.loop (.seq (.reg 4 1 [.mk (.some 9) (.bin .lss
  (.t 8) (.t 7)) .none 4 .none .false [] .false]) (.seq (.cond (.t 9) .skip (.exit 0)) (.seq (.block 1 (.seq (.reg 5 2 [.mk (.some 10) (.mv (.t 8)) .none 5 .none .false [] .false,
  .mk (.some 5) (.mv (.t 10)) .none 6 .none .false [] .false]) (.seq (.reg 7 6 [.mk (.some 11) (.mv (.t 1)) .none 7 .none .false [] .false, .mk (.some 12) (.mv (.t 0)) .none 8 .none
  .false [] .false, .mk (.some 13) (.mv (.t 5)) .none 9 .none .false [] .false, .mk (.some 14) (.iaddr 1 (.t 12) (.t 13)) .none 10 .none .false [] .false, .mk (.some 15) (.load 1
  .false (.t 14)) .none 11 .none .false [] .false, .mk (.some 16) (.bin .eql (.t 11) (.t 15)) .none 12 .none .false [] .false]) (.cond (.t 16) (.seq (.reg 13 2 [.mk (.some 17) (.mv
  (.t 5)) .none 13 .none .false [] .false, .mk (.some 4) (.mv (.t 17)) .none 14 .none .false [] .false]) .ret) .skip)))) (.reg 15 2 [.mk (.some 18) (.bin .add (.t 8) (.k (.int .i64
  1))) .none 15 .none .false [] .false, .mk (.some 8) (.mv (.t 18)) .none 16 .none .false [] .false]))))))) (.seq (.reg 17 1 [.mk (.some 4) (.mv (.k (.int .i64 (-1)))) .none 17
  .none .false [] .false]) .ret))
def rs71 : List IRes := [.tmp 4]
set_option maxRecDepth 100000 in
theorem comp71 : Comp Try.prog 71 ir71 rs71 19 := ⟨⟨_, _, 18, Try.func71, rfl, by kernel_rfl, by kernel_rfl, rfl⟩⟩
theorem body71 : HasBody Try.prog 71 := hasBody_of (by kernel_rfl)

def ir75 : IC :=
  .seq (.reg 0 1 [.mk (.some 2) (.mv (.k (.int .i64 0))) .none 0 .none .false [] .false]) (.seq (.seq (.reg 1 3 [.mk (.some 5) (.mv (.t 0)) .none 1 .none .false [] .false, .mk (.some
  6) (.len (.t 5)) .none 2 .none .false [] .false, .mk (.some 7) (.bin .lss (.t 6) (.k (.int .i64 1))) .none 3 .none .false [] .false]) (.cond (.t 7) (.reg 4 2 [.mk (.some 8) (.pur
  (.mki 9) [.k (.string (ByteArray.mk (Array.mk [115, 108, 105, 99, 101, 115, 46, 77, 97, 120, 58, 32, 101, 109, 112, 116, 121, 32, 108, 105, 115, 116])))]) .none 4 .none .false []
  .false, .mk .none (.lenS (.k (.bool .true))) .none 5 .none .false [] .false]) .skip)) (.seq (.reg 6 4 [.mk (.some 9) (.mv (.t 0)) .none 6 .none .false [] .false, .mk (.some 10)
  (.iaddr 1 (.t 9) (.k (.int .i64 0))) .none 7 .none .false [] .false, .mk (.some 11) (.load 1 .false (.t 10)) .none 8 .none .false [] .false, .mk (.some 3) (.mv (.t 11)) .none 9
  .none .false [] .false]) (.seq (.seq (.reg 10 1 [.mk (.some 4) (.mv (.k (.int .i64 1))) .none 10 .none .false [] .false]) (.block 0 (.loop (.seq (.seq (.reg 11 4 [.mk (.some 12)
  (.mv (.t 4)) .none 11 .none .false [] .false, .mk (.some 13) (.mv (.t 0)) .none 12 .none .false [] .false, .mk (.some 14) (.len (.t 13)) .none 13 .none .false [] .false, .mk
  (.some 15) (.bin .lss (.t 12) (.t 14)) .none 14 .none .false [] .false]) (.cond (.t 15) .skip (.exit 0))) (.seq (.block 1 (.reg 15 7 [.mk (.some 18) (.mv (.t 3)) .none 15 .none
  .false [] .false, .mk (.some 19) (.mv (.t 0)) .none 16 .none .false [] .false, .mk (.some 20) (.mv (.t 4)) .none 17 .none .false [] .false, .mk (.some 21) (.iaddr 1 (.t 19) (.t
  20)) .none 18 .none .false [] .false, .mk (.some 22) (.load 1 .false (.t 21)) .none 19 .none .false [] .false, .mk (.some 23) (.mm .true (.t 18) (.t 22)) .none 20 .none .false []
  .false, .mk (.some 3) (.mv (.t 23)) .none 21 .none .false [] .false])) (.reg 22 3 [.mk (.some 16) (.mv (.t 4)) .none 22 .none .false [] .false, .mk (.some 17) (.bin .add (.t 16)
  (.k (.int .i64 1))) .none 23 .none .false [] .false, .mk (.some 4) (.mv (.t 17)) .none 24 .none .false [] .false])))))) (.seq (.reg 25 2 [.mk (.some 24) (.mv (.t 3)) .none 25
  .none .false [] .false, .mk (.some 2) (.mv (.t 24)) .none 26 .none .false [] .false]) .ret))))
def rs75 : List IRes := [.tmp 2]
set_option maxRecDepth 100000 in
theorem comp75 : Comp Try.prog 75 ir75 rs75 25 := ⟨⟨_, _, 27, Try.func75, rfl, by kernel_rfl, by kernel_rfl, rfl⟩⟩
theorem body75 : HasBody Try.prog 75 := hasBody_of (by kernel_rfl)

def ir58 : IC :=
  .seq (.reg 0 2 [.mk (.some 1) (.box 104 (.t 0)) .none 0 .none .false [] .false, .mk (.some 2) (.mv (.k (.bool .false))) .none 1 .none .false [] .false]) (.seq (.reg 2 16 [.mk (.some
  3) (.faddr 0 (.t 1)) .none 2 .none .false [] .false, .mk (.some 4) (.load 1 .false (.t 3)) .none 3 .none .false [] .false, .mk (.some 5) (.lenS (.t 4)) .none 4 .none .false []
  .false, .mk (.some 6) (.call 51 [.t 5, .k (.int .i64 1), .k (.int .i64 20)]) .none 5 .none .false [] .false, .mk (.some 7) (.mv (.t 6)) .none 6 .none .false [] .false, .mk (.some
  8) (.faddr 0 (.t 1)) (.some (7, .true)) 7 .none .false [] .false, .mk (.some 9) (.load 1 .false (.t 8)) (.some (7, .true)) 8 .none .false [] .false, .mk (.some 10) (.s2b 5 (.t 9))
  (.some (7, .true)) 9 .none .false [] .false, .mk (.some 11) (.call 78 [.t 10, .f 79]) (.some (7, .true)) 10 .none .false [] .false, .mk (.some 12) (.pick (.t 7) (.t 11) (.k (.bool
  .false))) .none 11 .none .false [] .false, .mk (.some 13) (.mv (.t 12)) .none 12 .none .false [] .false, .mk (.some 14) (.faddr 1 (.t 1)) (.some (13, .true)) 13 .none .false []
  .false, .mk (.some 15) (.load 1 .false (.t 14)) (.some (13, .true)) 14 .none .false [] .false, .mk (.some 16) (.call 67 [.t 15, .k (.int .i64 99)]) (.some (13, .true)) 15 .none
  .false [] .false, .mk (.some 17) (.pick (.t 13) (.t 16) (.k (.bool .false))) .none 16 .none .false [] .false, .mk (.some 2) (.mv (.t 17)) .none 17 .none .false [] .false]) .ret)
def rs58 : List IRes := [.tmp 2]
set_option maxRecDepth 100000 in
theorem comp58 : Comp Try.prog 58 ir58 rs58 18 := ⟨⟨_, _, 18, Try.func58, rfl, by kernel_rfl, by kernel_rfl, rfl⟩⟩
theorem body58 : HasBody Try.prog 58 := hasBody_of (by kernel_rfl)

def ir65 : IC :=
  .seq (.reg 4 1 [.mk (.some 9) (.mv (.k (.bool .false))) .none 4 .none .false [] .false]) (.seq (.seq (.reg 5 2 [.mk (.some 11) (.mv (.t 2)) .none 5 .none .false [] .false, .mk
  (.some 12) (.bin .eql (.t 11) (.k (.int .i64 0))) .none 6 .none .false [] .false]) (.cond (.t 12) (.seq (.draw 7 7 [0, 3] [] [.mk (.some 13) (.load 65 .true (.t 3)) .none 7 (.some
  []) .true [] .false, .mk (.some 14) (.mv (.t 0)) .none 8 (.some []) .true [] .false, .mk (.some 15) (.call 62 [.t 13, .t 14]) .none 9 (.some []) .true [] .false, .mk (.some 16)
  (.faddr 5 (.t 3)) .none 10 (.some []) .true [] .false, .mk (.some 17) (.load 60 .true (.t 16)) .none 11 (.some []) .true [] .false, .mk (.some 18) (.pur (.bin .eql 95) [.t 15, .t
  17]) .none 12 (.some [9]) .true [] .false, .mk (.some 9) (.mv (.t 18)) .none 13 (.some [9]) .true [] .false]) .ret) .skip)) (.seq (.seq (.reg 14 2 [.mk (.some 19) (.mv (.t 1))
  .none 14 .none .false [] .false, .mk (.some 10) (.mv (.t 19)) .none 15 .none .false [] .false]) (.block 0 (.loop (.seq (.seq (.reg 16 4 [.mk (.some 20) (.mv (.t 10)) .none 16
  .none .false [] .false, .mk (.some 21) (.load 1 .false (.t 4)) .none 17 .none .false [] .false, .mk (.some 22) (.len (.t 21)) .none 18 .none .false [] .false, .mk (.some 23) (.bin
  .lss (.t 20) (.t 22)) .none 19 .none .false [] .false]) (.cond (.t 23) .skip (.exit 0))) (.seq (.block 1 (.seq (.drawd 20 13 [] [] [] [.some [5], .none, .some [4], .none, .none,
  .none, .none, .some [0], .none, .none, .none, .none, .none] [(0, .mk (.some 26) (.load 1 .false (.t 5)) .none 20 (.some []) .true [] .false), (1, .mk (.some 27) (.mv (.t 0)) .none
  21 (.some []) .true [] .false), (2, .mk (.some 28) (.load 1 .false (.t 4)) .none 22 (.some []) .true [] .false), (3, .mk (.some 29) (.mv (.t 10)) .none 23 (.some []) .true []
  .false), (4, .mk (.some 30) (.iaddr 1 (.t 28) (.t 29)) .none 24 (.some []) .true [3, 2] .false), (5, .mk (.some 31) (.load 1 .false (.t 30)) .none 25 (.some []) .true [2, 3, 4]
  .false), (6, .mk (.some 32) (.bsl 3 1 1 [.int .i64 0] [(0, .t 31)]) .none 26 (.some []) .true [4, 3, 2, 5] .false), (7, .mk (.some 33) (.app 3 1 8 (.t 27) (.t 32)) .none 27 (.some
  [26]) .true [5, 2, 3, 4, 6, 1] .true), (8, .mk (.some 34) (.mv (.t 10)) .none 28 (.some []) .true [] .false), (9, .mk (.some 35) (.bin .add (.t 34) (.k (.int .i64 1))) .none 29
  (.some []) .true [8] .false), (10, .mk (.some 36) (.mv (.t 2)) .none 30 (.some []) .true [] .false), (11, .mk (.some 37) (.bin .sub (.t 36) (.k (.int .i64 1))) .none 31 (.some [])
  .true [10] .false), (12, .mk (.some 38) (.callv (.t 26) [.t 33, .t 35, .t 37]) .none 32 (.some [26, 27]) .true [10, 11, 8, 9, 1, 6, 4, 3, 2, 5, 7, 0] .false)]) (.cond (.t 38)
  (.seq (.reg 33 1 [.mk (.some 9) (.mv (.k (.bool .true))) .none 33 .none .false [] .false]) .ret) .skip))) (.reg 34 3 [.mk (.some 24) (.mv (.t 10)) .none 34 .none .false [] .false,
  .mk (.some 25) (.bin .add (.t 24) (.k (.int .i64 1))) .none 35 .none .false [] .false, .mk (.some 10) (.mv (.t 25)) .none 36 .none .false [] .false])))))) (.seq (.reg 37 1 [.mk
  (.some 9) (.mv (.k (.bool .false))) .none 37 .none .false [] .false]) .ret)))
def rs65 : List IRes := [.tmp 9]
set_option maxRecDepth 100000 in
theorem comp65 : CompAt Try.prog 65 4 ir65 rs65 39 := ⟨⟨_, _, 38, Try.func65, rfl, by kernel_rfl, by kernel_rfl, rfl⟩⟩
theorem body65 : HasBody Try.prog 65 := hasBody_of (by kernel_rfl)

end Go.Proofs.Ytpcpjmplgladmaa
