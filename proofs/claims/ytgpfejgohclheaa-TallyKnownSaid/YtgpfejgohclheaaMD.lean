/- The intermediate forms of functions of the program (printed by a program of mine), each checked against the code. The intermediate forms of functions of the program (printed by a program of mine), each checked against the code. -/
import Derived.Test.YtgpfejgohclheaaMC
import Derived.Test.YtgpfejgohclheaaProg
import Derived.KernelRfl
namespace Go.Proofs.Ytgpfejgohclheaa
open Go.Pal
def ir14 : IC :=
  .seq (.reg 0 2 [.mk (.some 1) (.box 27 (.t 0)) .none 0 .none .false [] .false, .mk (.some 2) (.mv (.k (.int .i64 0))) .none 1 .none .false [] .false]) (.seq (.seq (.reg 2 3 [.mk
  (.some 3) (.load 11 .true (.t 1)) .none 2 .none .false [] .false, .mk (.some 4) (.call 21 [.t 3]) .none 3 .none .false [] .false, .mk (.some 5) (.un .not (.t 4)) .none 4 .none
  .false [] .false]) (.cond (.t 5) (.seq (.reg 5 1 [.mk (.some 2) (.mv (.k (.int .i64 1))) .none 5 .none .false [] .false]) .ret) .skip)) (.seq (.seq (.reg 6 3 [.mk (.some 6) (.load
  11 .true (.t 1)) .none 6 .none .false [] .false, .mk (.some 7) (.call 30 [.t 6]) .none 7 .none .false [] .false, .mk (.some 8) (.bin .geq (.t 7) (.k (.int .i64 0))) .none 8 .none
  .false [] .false]) (.cond (.t 8) (.seq (.reg 9 1 [.mk (.some 2) (.mv (.k (.int .i64 9))) .none 9 .none .false [] .false]) .ret) .skip)) (.seq (.reg 10 1 [.mk (.some 2) (.mv (.k
  (.int .i64 0))) .none 10 .none .false [] .false]) .ret)))
def rs14 : List IRes := [.tmp 2]
set_option maxRecDepth 100000 in
theorem comp14 : Comp Try.prog 14 ir14 rs14 9 := ⟨⟨_, _, 11, Try.func14, rfl, by kernel_rfl, by kernel_rfl, rfl⟩⟩
theorem body14 : HasBody Try.prog 14 := hasBody_of (by kernel_rfl)

def ir15 : IC :=
  .seq (.reg 0 1 [.mk (.some 4) (.mv (.k (.bool .false))) .none 0 .none .false [] .false]) (.seq (.seq (.reg 1 5 [.mk (.some 6) (.mv (.t 0)) .none 1 .none .false [] .false, .mk (.some
  7) (.len (.t 6)) .none 2 .none .false [] .false, .mk (.some 8) (.mv (.t 1)) .none 3 .none .false [] .false, .mk (.some 9) (.len (.t 8)) .none 4 .none .false [] .false, .mk (.some
  10) (.bin .neq (.t 7) (.t 9)) .none 5 .none .false [] .false]) (.cond (.t 10) (.seq (.reg 6 1 [.mk (.some 4) (.mv (.k (.bool .false))) .none 6 .none .false [] .false]) .ret)
  .skip)) (.seq (.seq (.reg 7 1 [.mk (.some 5) (.mv (.k (.int .i64 0))) .none 7 .none .false [] .false]) (.block 0 (.loop (.seq (.seq (.reg 8 4 [.mk (.some 11) (.mv (.t 5)) .none 8
  .none .false [] .false, .mk (.some 12) (.mv (.t 0)) .none 9 .none .false [] .false, .mk (.some 13) (.len (.t 12)) .none 10 .none .false [] .false, .mk (.some 14) (.bin .lss (.t
  11) (.t 13)) .none 11 .none .false [] .false]) (.cond (.t 14) .skip (.exit 0))) (.seq (.block 1 (.seq (.draw 12 9 [] [] [.mk (.some 17) (.mv (.t 0)) .none 12 (.some []) .true []
  .false, .mk (.some 18) (.mv (.t 5)) .none 13 (.some []) .true [] .false, .mk (.some 19) (.iaddr 1 (.t 17) (.t 18)) .none 14 (.some []) .true [] .false, .mk (.some 20) (.load 1
  .false (.t 19)) .none 15 (.some []) .true [] .false, .mk (.some 21) (.mv (.t 1)) .none 16 (.some []) .true [] .false, .mk (.some 22) (.mv (.t 5)) .none 17 (.some []) .true []
  .false, .mk (.some 23) (.iaddr 1 (.t 21) (.t 22)) .none 18 (.some []) .true [] .false, .mk (.some 24) (.load 1 .false (.t 23)) .none 19 (.some []) .true [] .false, .mk (.some 25)
  (.bin .neq (.t 20) (.t 24)) .none 20 (.some []) .true [] .false]) (.cond (.t 25) (.seq (.reg 21 1 [.mk (.some 4) (.mv (.k (.bool .false))) .none 21 .none .false [] .false]) .ret)
  .skip))) (.reg 22 3 [.mk (.some 15) (.mv (.t 5)) .none 22 .none .false [] .false, .mk (.some 16) (.bin .add (.t 15) (.k (.int .i64 1))) .none 23 .none .false [] .false, .mk (.some
  5) (.mv (.t 16)) .none 24 .none .false [] .false])))))) (.seq (.reg 25 1 [.mk (.some 4) (.mv (.k (.bool .true))) .none 25 .none .false [] .false]) .ret)))
def rs15 : List IRes := [.tmp 4]
set_option maxRecDepth 100000 in
theorem comp15 : Comp Try.prog 15 ir15 rs15 26 := ⟨⟨_, _, 26, Try.func15, rfl, by kernel_rfl, by kernel_rfl, rfl⟩⟩
theorem body15 : HasBody Try.prog 15 := hasBody_of (by kernel_rfl)

def ir16 : IC :=
  .seq (.reg 0 2 [.mk (.some 1) (.box 27 (.t 0)) .none 0 .none .false [] .false, .mk (.some 2) (.mv (.k (.slice .none 0 0))) .none 1 .none .false [] .false]) (.seq (.reg 2 1 [.mk
  (.some 3) (.mv (.k (.slice .none 0 0))) .none 2 .none .false [] .false]) (.seq (.seq (.reg 3 1 [.mk (.some 4) (.mv (.k (.int .i64 0))) .none 3 .none .false [] .false]) (.block 0
  (.loop (.seq (.seq (.reg 4 4 [.mk (.some 7) (.mv (.t 4)) .none 4 .none .false [] .false, .mk (.some 8) (.faddr 0 (.t 1)) .none 5 .none .false [] .false, .mk (.some 9) (.load 1
  .false (.t 8)) .none 6 .none .false [] .false, .mk (.some 10) (.bin .lss (.t 7) (.t 9)) .none 7 .none .false [] .false]) (.cond (.t 10) .skip (.exit 0))) (.seq (.block 1 (.seq
  (.reg 8 1 [.mk (.some 5) (.mv (.k (.int .i64 0))) .none 8 .none .false [] .false]) (.seq (.seq (.reg 9 1 [.mk (.some 6) (.mv (.k (.int .i64 0))) .none 9 .none .false [] .false])
  (.block 2 (.loop (.seq (.seq (.reg 10 2 [.mk (.some 13) (.mv (.t 6)) .none 10 .none .false [] .false, .mk (.some 14) (.bin .lss (.t 13) (.k (.int .i64 3))) .none 11 .none .false
  [] .false]) (.cond (.t 14) .skip (.exit 2))) (.seq (.block 3 (.seq (.reg 12 5 [.mk (.some 17) (.load 11 .true (.t 1)) .none 12 .none .false [] .false, .mk (.some 18) (.mv (.t 4))
  .none 13 .none .false [] .false, .mk (.some 19) (.mv (.t 6)) .none 14 .none .false [] .false, .mk (.some 20) (.conv .u8 (.t 19)) .none 15 .none .false [] .false, .mk (.some 21)
  (.call 44 [.t 17, .t 18, .t 20]) .none 16 .none .false [] .false]) (.cond (.t 21) (.reg 17 3 [.mk (.some 22) (.mv (.t 5)) .none 17 .none .false [] .false, .mk (.some 23) (.bin
  .add (.t 22) (.k (.int .i64 1))) .none 18 .none .false [] .false, .mk (.some 5) (.mv (.t 23)) .none 19 .none .false [] .false]) .skip))) (.reg 20 3 [.mk (.some 15) (.mv (.t 6))
  .none 20 .none .false [] .false, .mk (.some 16) (.bin .add (.t 15) (.k (.int .i64 1))) .none 21 .none .false [] .false, .mk (.some 6) (.mv (.t 16)) .none 22 .none .false []
  .false])))))) (.seq (.reg 23 2 [.mk (.some 24) (.mv (.t 5)) .none 23 .none .false [] .false, .mk (.some 25) (.bin .gtr (.t 24) (.k (.int .i64 1))) .none 24 .none .false []
  .false]) (.cond (.t 25) (.reg 25 5 [.mk (.some 26) (.mv (.t 3)) .none 25 .none .false [] .false, .mk (.some 27) (.mv (.t 4)) .none 26 .none .false [] .false, .mk (.some 28) (.bsl
  3 1 1 [.int .i64 0] [(0, .t 27)]) .none 27 .none .false [] .false, .mk (.some 29) (.app 3 1 8 (.t 26) (.t 28)) .none 28 .none .false [] .false, .mk (.some 3) (.mv (.t 29)) .none
  29 .none .false [] .false]) .skip))))) (.reg 30 3 [.mk (.some 11) (.mv (.t 4)) .none 30 .none .false [] .false, .mk (.some 12) (.bin .add (.t 11) (.k (.int .i64 1))) .none 31
  .none .false [] .false, .mk (.some 4) (.mv (.t 12)) .none 32 .none .false [] .false])))))) (.seq (.reg 33 2 [.mk (.some 30) (.mv (.t 3)) .none 33 .none .false [] .false, .mk
  (.some 2) (.mv (.t 30)) .none 34 .none .false [] .false]) .ret)))
def rs16 : List IRes := [.tmp 2]
set_option maxRecDepth 100000 in
theorem comp16 : Comp Try.prog 16 ir16 rs16 31 := ⟨⟨_, _, 35, Try.func16, rfl, by kernel_rfl, by kernel_rfl, rfl⟩⟩
theorem body16 : HasBody Try.prog 16 := hasBody_of (by kernel_rfl)

def ir17 : IC :=
  .seq (.reg 0 2 [.mk (.some 1) (.box 27 (.t 0)) .none 0 .none .false [] .false, .mk (.some 2) (.mv (.k (.int .i64 0))) .none 1 .none .false [] .false]) (.seq (.reg 2 3 [.mk (.some 4)
  (.load 11 .true (.t 1)) .none 2 .none .false [] .false, .mk (.some 5) (.call 14 [.t 4]) .none 3 .none .false [] .false, .mk (.some 3) (.mv (.t 5)) .none 4 .none .false [] .false])
  (.seq (.seq (.reg 5 8 [.mk (.some 6) (.mv (.t 3)) .none 5 .none .false [] .false, .mk (.some 7) (.bin .eql (.t 6) (.k (.int .i64 0))) .none 6 .none .false [] .false, .mk (.some 8)
  (.mv (.t 7)) .none 7 .none .false [] .false, .mk (.some 9) (.load 11 .true (.t 1)) (.some (8, .true)) 8 .none .false [] .false, .mk (.some 10) (.call 16 [.t 9]) (.some (8, .true))
  9 .none .false [] .false, .mk (.some 11) (.len (.t 10)) (.some (8, .true)) 10 .none .false [] .false, .mk (.some 12) (.bin .gtr (.t 11) (.k (.int .i64 8))) (.some (8, .true)) 11
  .none .false [] .false, .mk (.some 13) (.pick (.t 8) (.t 12) (.k (.bool .false))) .none 12 .none .false [] .false]) (.cond (.t 13) (.seq (.reg 13 1 [.mk (.some 2) (.mv (.k (.int
  .i64 3))) .none 13 .none .false [] .false]) .ret) .skip)) (.seq (.reg 14 2 [.mk (.some 14) (.mv (.t 3)) .none 14 .none .false [] .false, .mk (.some 2) (.mv (.t 14)) .none 15 .none
  .false [] .false]) .ret)))
def rs17 : List IRes := [.tmp 2]
set_option maxRecDepth 100000 in
theorem comp17 : Comp Try.prog 17 ir17 rs17 15 := ⟨⟨_, _, 16, Try.func17, rfl, by kernel_rfl, by kernel_rfl, rfl⟩⟩
theorem body17 : HasBody Try.prog 17 := hasBody_of (by kernel_rfl)

def ir20 : IC :=
  .seq (.reg 0 2 [.mk (.some 1) (.box 27 (.t 0)) .none 0 .none .false [] .false, .mk (.some 2) (.mv (.k (.bool .false))) .none 1 .none .false [] .false]) (.seq (.seq (.reg 2 1 [.mk
  (.some 3) (.mv (.k (.int .i64 0))) .none 2 .none .false [] .false]) (.block 0 (.loop (.seq (.seq (.reg 3 2 [.mk (.some 4) (.mv (.t 3)) .none 3 .none .false [] .false, .mk (.some
  5) (.bin .lss (.t 4) (.k (.int .i64 2))) .none 4 .none .false [] .false]) (.cond (.t 5) .skip (.exit 0))) (.seq (.block 1 (.seq (.reg 5 14 [.mk (.some 8) (.mv (.t 3)) .none 5
  .none .false [] .false, .mk (.some 9) (.faddr 1 (.t 1)) .none 6 .none .false [] .false, .mk (.some 10) (.aaddr 1 2 (.t 9) (.t 8)) .none 7 .none .false [] .false, .mk (.some 11)
  (.load 1 .false (.t 10)) .none 8 .none .false [] .false, .mk (.some 12) (.len (.t 11)) .none 9 .none .false [] .false, .mk (.some 13) (.bin .gtr (.t 12) (.k (.int .i64 45))) .none
  10 .none .false [] .false, .mk (.some 14) (.mv (.t 13)) .none 11 .none .false [] .false, .mk (.some 15) (.mv (.t 3)) (.some (14, .false)) 12 .none .false [] .false, .mk (.some 16)
  (.faddr 3 (.t 1)) (.some (14, .false)) 13 .none .false [] .false, .mk (.some 17) (.aaddr 1 2 (.t 16) (.t 15)) (.some (14, .false)) 14 .none .false [] .false, .mk (.some 18) (.load
  1 .false (.t 17)) (.some (14, .false)) 15 .none .false [] .false, .mk (.some 19) (.len (.t 18)) (.some (14, .false)) 16 .none .false [] .false, .mk (.some 20) (.bin .gtr (.t 19)
  (.k (.int .i64 45))) (.some (14, .false)) 17 .none .false [] .false, .mk (.some 21) (.pick (.t 14) (.k (.bool .true)) (.t 20)) .none 18 .none .false [] .false]) (.cond (.t 21)
  (.seq (.reg 19 1 [.mk (.some 2) (.mv (.k (.bool .false))) .none 19 .none .false [] .false]) .ret) .skip))) (.reg 20 3 [.mk (.some 6) (.mv (.t 3)) .none 20 .none .false [] .false,
  .mk (.some 7) (.bin .add (.t 6) (.k (.int .i64 1))) .none 21 .none .false [] .false, .mk (.some 3) (.mv (.t 7)) .none 22 .none .false [] .false])))))) (.seq (.reg 23 11 [.mk
  (.some 22) (.faddr 5 (.t 1)) .none 23 .none .false [] .false, .mk (.some 23) (.load 1 .false (.t 22)) .none 24 .none .false [] .false, .mk (.some 24) (.len (.t 23)) .none 25 .none
  .false [] .false, .mk (.some 25) (.bin .leq (.t 24) (.k (.int .i64 12))) .none 26 .none .false [] .false, .mk (.some 26) (.mv (.t 25)) .none 27 .none .false [] .false, .mk (.some
  27) (.faddr 6 (.t 1)) (.some (26, .true)) 28 .none .false [] .false, .mk (.some 28) (.load 1 .false (.t 27)) (.some (26, .true)) 29 .none .false [] .false, .mk (.some 29) (.len
  (.t 28)) (.some (26, .true)) 30 .none .false [] .false, .mk (.some 30) (.bin .leq (.t 29) (.k (.int .i64 12))) (.some (26, .true)) 31 .none .false [] .false, .mk (.some 31) (.pick
  (.t 26) (.t 30) (.k (.bool .false))) .none 32 .none .false [] .false, .mk (.some 2) (.mv (.t 31)) .none 33 .none .false [] .false]) .ret))
def rs20 : List IRes := [.tmp 2]
set_option maxRecDepth 100000 in
theorem comp20 : Comp Try.prog 20 ir20 rs20 32 := ⟨⟨_, _, 34, Try.func20, rfl, by kernel_rfl, by kernel_rfl, rfl⟩⟩
theorem body20 : HasBody Try.prog 20 := hasBody_of (by kernel_rfl)

def ir21 : IC :=
  .seq (.reg 0 2 [.mk (.some 1) (.box 27 (.t 0)) .none 0 .none .false [] .false, .mk (.some 2) (.mv (.k (.bool .false))) .none 1 .none .false [] .false]) (.seq (.seq (.reg 2 43 [.mk
  (.some 11) (.faddr 0 (.t 1)) .none 2 .none .false [] .false, .mk (.some 12) (.load 1 .false (.t 11)) .none 3 .none .false [] .false, .mk (.some 13) (.call 46 [.t 12, .k (.int .i64
  1), .k (.int .i64 40)]) .none 4 .none .false [] .false, .mk (.some 14) (.un .not (.t 13)) .none 5 .none .false [] .false, .mk (.some 15) (.mv (.t 14)) .none 6 .none .false []
  .false, .mk (.some 16) (.faddr 5 (.t 1)) (.some (15, .false)) 7 .none .false [] .false, .mk (.some 17) (.load 1 .false (.t 16)) (.some (15, .false)) 8 .none .false [] .false, .mk
  (.some 18) (.len (.t 17)) (.some (15, .false)) 9 .none .false [] .false, .mk (.some 19) (.bin .gtr (.t 18) (.k (.int .i64 10))) (.some (15, .false)) 10 .none .false [] .false, .mk
  (.some 20) (.pick (.t 15) (.k (.bool .true)) (.t 19)) .none 11 .none .false [] .false, .mk (.some 21) (.mv (.t 20)) .none 12 .none .false [] .false, .mk (.some 22) (.faddr 6 (.t
  1)) (.some (21, .false)) 13 .none .false [] .false, .mk (.some 23) (.load 1 .false (.t 22)) (.some (21, .false)) 14 .none .false [] .false, .mk (.some 24) (.len (.t 23)) (.some
  (21, .false)) 15 .none .false [] .false, .mk (.some 25) (.bin .gtr (.t 24) (.k (.int .i64 10))) (.some (21, .false)) 16 .none .false [] .false, .mk (.some 26) (.pick (.t 21) (.k
  (.bool .true)) (.t 25)) .none 17 .none .false [] .false, .mk (.some 27) (.mv (.t 26)) .none 18 .none .false [] .false, .mk (.some 28) (.faddr 7 (.t 1)) (.some (27, .false)) 19
  .none .false [] .false, .mk (.some 29) (.load 1 .false (.t 28)) (.some (27, .false)) 20 .none .false [] .false, .mk (.some 30) (.bin .gtr (.t 29) (.k (.int .u8 2))) (.some (27,
  .false)) 21 .none .false [] .false, .mk (.some 31) (.pick (.t 27) (.k (.bool .true)) (.t 30)) .none 22 .none .false [] .false, .mk (.some 32) (.mv (.t 31)) .none 23 .none .false
  [] .false, .mk (.some 33) (.faddr 8 (.t 1)) (.some (32, .false)) 24 .none .false [] .false, .mk (.some 34) (.load 1 .false (.t 33)) (.some (32, .false)) 25 .none .false [] .false,
  .mk (.some 35) (.call 46 [.t 34, .k (.int .i64 0), .k (.int .i64 40)]) (.some (32, .false)) 26 .none .false [] .false, .mk (.some 36) (.un .not (.t 35)) (.some (32, .false)) 27
  .none .false [] .false, .mk (.some 37) (.pick (.t 32) (.k (.bool .true)) (.t 36)) .none 28 .none .false [] .false, .mk (.some 38) (.mv (.t 37)) .none 29 .none .false [] .false,
  .mk (.some 39) (.faddr 9 (.t 1)) (.some (38, .false)) 30 .none .false [] .false, .mk (.some 40) (.load 1 .false (.t 39)) (.some (38, .false)) 31 .none .false [] .false, .mk (.some
  41) (.call 46 [.t 40, .k (.int .i64 0), .k (.int .i64 40)]) (.some (38, .false)) 32 .none .false [] .false, .mk (.some 42) (.un .not (.t 41)) (.some (38, .false)) 33 .none .false
  [] .false, .mk (.some 43) (.pick (.t 38) (.k (.bool .true)) (.t 42)) .none 34 .none .false [] .false, .mk (.some 44) (.mv (.t 43)) .none 35 .none .false [] .false, .mk (.some 45)
  (.faddr 10 (.t 1)) (.some (44, .false)) 36 .none .false [] .false, .mk (.some 46) (.load 1 .false (.t 45)) (.some (44, .false)) 37 .none .false [] .false, .mk (.some 47) (.bin
  .neq (.t 46) (.k (.int .u8 1))) (.some (44, .false)) 38 .none .false [] .false, .mk (.some 48) (.mv (.t 47)) (.some (44, .false)) 39 .none .false [] .false, .mk (.some 49) (.faddr
  10 (.t 1)) (.some (48, .true)) 40 .none .false [] .false, .mk (.some 50) (.load 1 .false (.t 49)) (.some (48, .true)) 41 .none .false [] .false, .mk (.some 51) (.bin .neq (.t 50)
  (.k (.int .u8 2))) (.some (48, .true)) 42 .none .false [] .false, .mk (.some 52) (.pick (.t 48) (.t 51) (.k (.bool .false))) (.some (44, .false)) 43 .none .false [] .false, .mk
  (.some 53) (.pick (.t 44) (.k (.bool .true)) (.t 52)) .none 44 .none .false [] .false]) (.cond (.t 53) (.seq (.reg 45 1 [.mk (.some 2) (.mv (.k (.bool .false))) .none 45 .none
  .false [] .false]) .ret) .skip)) (.seq (.seq (.reg 46 1 [.mk (.some 3) (.mv (.k (.int .i64 0))) .none 46 .none .false [] .false]) (.block 0 (.loop (.seq (.seq (.reg 47 2 [.mk
  (.some 54) (.mv (.t 3)) .none 47 .none .false [] .false, .mk (.some 55) (.bin .lss (.t 54) (.k (.int .i64 2))) .none 48 .none .false [] .false]) (.cond (.t 55) .skip (.exit 0)))
  (.seq (.block 1 (.seq (.draw 49 16 [1] [] [.mk (.some 58) (.load 11 .true (.t 1)) .none 49 (.some []) .true [] .false, .mk (.some 59) (.mv (.t 3)) .none 50 (.some []) .true []
  .false, .mk (.some 60) (.faddr 1 (.t 1)) .none 51 (.some []) .true [] .false, .mk (.some 61) (.aaddr 1 2 (.t 60) (.t 59)) .none 52 (.some []) .true [] .false, .mk (.some 62)
  (.load 1 .false (.t 61)) .none 53 (.some []) .true [] .false, .mk (.some 63) (.call 47 [.t 58, .t 62]) .none 54 (.some []) .true [] .false, .mk (.some 64) (.un .not (.t 63)) .none
  55 (.some [54]) .true [] .false, .mk (.some 65) (.mv (.t 64)) .none 56 (.some [54]) .true [] .false, .mk (.some 66) (.load 11 .true (.t 1)) (.some (65, .false)) 57 (.some [54])
  .false [] .false, .mk (.some 67) (.mv (.t 3)) (.some (65, .false)) 58 (.some [54]) .true [] .false, .mk (.some 68) (.faddr 3 (.t 1)) (.some (65, .false)) 59 (.some [54]) .true []
  .false, .mk (.some 69) (.aaddr 1 2 (.t 68) (.t 67)) (.some (65, .false)) 60 (.some [54]) .true [] .false, .mk (.some 70) (.load 1 .false (.t 69)) (.some (65, .false)) 61 (.some
  [54]) .false [] .false, .mk (.some 71) (.call 47 [.t 66, .t 70]) (.some (65, .false)) 62 (.some [54]) .false [] .false, .mk (.some 72) (.un .not (.t 71)) (.some (65, .false)) 63
  (.some [54, 62]) .true [] .false, .mk (.some 73) (.pick (.t 65) (.k (.bool .true)) (.t 72)) .none 64 (.some [62, 54]) .true [] .false]) (.cond (.t 73) (.seq (.reg 65 1 [.mk (.some
  2) (.mv (.k (.bool .false))) .none 65 .none .false [] .false]) .ret) .skip))) (.reg 66 3 [.mk (.some 56) (.mv (.t 3)) .none 66 .none .false [] .false, .mk (.some 57) (.bin .add
  (.t 56) (.k (.int .i64 1))) .none 67 .none .false [] .false, .mk (.some 3) (.mv (.t 57)) .none 68 .none .false [] .false])))))) (.seq (.seq (.reg 69 1 [.mk (.some 4) (.mv (.k
  (.int .i64 0))) .none 69 .none .false [] .false]) (.block 2 (.loop (.seq (.seq (.reg 70 5 [.mk (.some 74) (.mv (.t 4)) .none 70 .none .false [] .false, .mk (.some 75) (.faddr 5
  (.t 1)) .none 71 .none .false [] .false, .mk (.some 76) (.load 1 .false (.t 75)) .none 72 .none .false [] .false, .mk (.some 77) (.len (.t 76)) .none 73 .none .false [] .false,
  .mk (.some 78) (.bin .lss (.t 74) (.t 77)) .none 74 .none .false [] .false]) (.cond (.t 78) .skip (.exit 2))) (.seq (.block 3 (.seq (.reg 75 7 [.mk (.some 81) (.faddr 5 (.t 1))
  .none 75 .none .false [] .false, .mk (.some 82) (.load 1 .false (.t 81)) .none 76 .none .false [] .false, .mk (.some 83) (.mv (.t 4)) .none 77 .none .false [] .false, .mk (.some
  84) (.iaddr 2 (.t 82) (.t 83)) .none 78 .none .false [] .false, .mk (.some 85) (.load 2 .true (.t 84)) .none 79 .none .false [] .false, .mk (.some 5) (.alloc 82 [.int .i64 0, .int
  .i64 0]) .none 80 .none .false [] .false, .mk .none (.store 2 (.t 5) (.t 85)) .none 81 .none .false [] .false]) (.seq (.seq (.reg 82 23 [.mk (.some 86) (.faddr 0 (.t 5)) .none 82
  .none .false [] .false, .mk (.some 87) (.load 1 .false (.t 86)) .none 83 .none .false [] .false, .mk (.some 88) (.faddr 0 (.t 1)) .none 84 .none .false [] .false, .mk (.some 89)
  (.load 1 .false (.t 88)) .none 85 .none .false [] .false, .mk (.some 90) (.bin .sub (.t 89) (.k (.int .i64 1))) .none 86 .none .false [] .false, .mk (.some 91) (.call 46 [.t 87,
  .k (.int .i64 0), .t 90]) .none 87 .none .false [] .false, .mk (.some 92) (.un .not (.t 91)) .none 88 .none .false [] .false, .mk (.some 93) (.mv (.t 92)) .none 89 .none .false []
  .false, .mk (.some 94) (.faddr 1 (.t 5)) (.some (93, .false)) 90 .none .false [] .false, .mk (.some 95) (.load 1 .false (.t 94)) (.some (93, .false)) 91 .none .false [] .false,
  .mk (.some 96) (.faddr 0 (.t 1)) (.some (93, .false)) 92 .none .false [] .false, .mk (.some 97) (.load 1 .false (.t 96)) (.some (93, .false)) 93 .none .false [] .false, .mk (.some
  98) (.bin .sub (.t 97) (.k (.int .i64 1))) (.some (93, .false)) 94 .none .false [] .false, .mk (.some 99) (.call 46 [.t 95, .k (.int .i64 0), .t 98]) (.some (93, .false)) 95 .none
  .false [] .false, .mk (.some 100) (.un .not (.t 99)) (.some (93, .false)) 96 .none .false [] .false, .mk (.some 101) (.pick (.t 93) (.k (.bool .true)) (.t 100)) .none 97 .none
  .false [] .false, .mk (.some 102) (.mv (.t 101)) .none 98 .none .false [] .false, .mk (.some 103) (.faddr 0 (.t 5)) (.some (102, .false)) 99 .none .false [] .false, .mk (.some
  104) (.load 1 .false (.t 103)) (.some (102, .false)) 100 .none .false [] .false, .mk (.some 105) (.faddr 1 (.t 5)) (.some (102, .false)) 101 .none .false [] .false, .mk (.some
  106) (.load 1 .false (.t 105)) (.some (102, .false)) 102 .none .false [] .false, .mk (.some 107) (.bin .eql (.t 104) (.t 106)) (.some (102, .false)) 103 .none .false [] .false,
  .mk (.some 108) (.pick (.t 102) (.k (.bool .true)) (.t 107)) .none 104 .none .false [] .false]) (.cond (.t 108) (.seq (.reg 105 1 [.mk (.some 2) (.mv (.k (.bool .false))) .none
  105 .none .false [] .false]) .ret) .skip)) (.seq (.reg 106 1 [.mk (.some 6) (.mv (.k (.int .i64 0))) .none 106 .none .false [] .false]) (.block 4 (.loop (.seq (.seq (.reg 107 3
  [.mk (.some 109) (.mv (.t 6)) .none 107 .none .false [] .false, .mk (.some 110) (.mv (.t 4)) .none 108 .none .false [] .false, .mk (.some 111) (.bin .lss (.t 109) (.t 110)) .none
  109 .none .false [] .false]) (.cond (.t 111) .skip (.exit 4))) (.seq (.block 5 (.seq (.reg 110 7 [.mk (.some 114) (.faddr 5 (.t 1)) .none 110 .none .false [] .false, .mk (.some
  115) (.load 1 .false (.t 114)) .none 111 .none .false [] .false, .mk (.some 116) (.mv (.t 6)) .none 112 .none .false [] .false, .mk (.some 117) (.iaddr 2 (.t 115) (.t 116)) .none
  113 .none .false [] .false, .mk (.some 118) (.load 2 .true (.t 117)) .none 114 .none .false [] .false, .mk (.some 7) (.alloc 82 [.int .i64 0, .int .i64 0]) .none 115 .none .false
  [] .false, .mk .none (.store 2 (.t 7) (.t 118)) .none 116 .none .false [] .false]) (.seq (.reg 117 26 [.mk (.some 119) (.faddr 0 (.t 5)) .none 117 .none .false [] .false, .mk
  (.some 120) (.load 1 .false (.t 119)) .none 118 .none .false [] .false, .mk (.some 121) (.faddr 0 (.t 7)) .none 119 .none .false [] .false, .mk (.some 122) (.load 1 .false (.t
  121)) .none 120 .none .false [] .false, .mk (.some 123) (.bin .eql (.t 120) (.t 122)) .none 121 .none .false [] .false, .mk (.some 124) (.mv (.t 123)) .none 122 .none .false []
  .false, .mk (.some 125) (.faddr 0 (.t 5)) (.some (124, .false)) 123 .none .false [] .false, .mk (.some 126) (.load 1 .false (.t 125)) (.some (124, .false)) 124 .none .false []
  .false, .mk (.some 127) (.faddr 1 (.t 7)) (.some (124, .false)) 125 .none .false [] .false, .mk (.some 128) (.load 1 .false (.t 127)) (.some (124, .false)) 126 .none .false []
  .false, .mk (.some 129) (.bin .eql (.t 126) (.t 128)) (.some (124, .false)) 127 .none .false [] .false, .mk (.some 130) (.pick (.t 124) (.k (.bool .true)) (.t 129)) .none 128
  .none .false [] .false, .mk (.some 131) (.mv (.t 130)) .none 129 .none .false [] .false, .mk (.some 132) (.faddr 1 (.t 5)) (.some (131, .false)) 130 .none .false [] .false, .mk
  (.some 133) (.load 1 .false (.t 132)) (.some (131, .false)) 131 .none .false [] .false, .mk (.some 134) (.faddr 0 (.t 7)) (.some (131, .false)) 132 .none .false [] .false, .mk
  (.some 135) (.load 1 .false (.t 134)) (.some (131, .false)) 133 .none .false [] .false, .mk (.some 136) (.bin .eql (.t 133) (.t 135)) (.some (131, .false)) 134 .none .false []
  .false, .mk (.some 137) (.pick (.t 131) (.k (.bool .true)) (.t 136)) .none 135 .none .false [] .false, .mk (.some 138) (.mv (.t 137)) .none 136 .none .false [] .false, .mk (.some
  139) (.faddr 1 (.t 5)) (.some (138, .false)) 137 .none .false [] .false, .mk (.some 140) (.load 1 .false (.t 139)) (.some (138, .false)) 138 .none .false [] .false, .mk (.some
  141) (.faddr 1 (.t 7)) (.some (138, .false)) 139 .none .false [] .false, .mk (.some 142) (.load 1 .false (.t 141)) (.some (138, .false)) 140 .none .false [] .false, .mk (.some
  143) (.bin .eql (.t 140) (.t 142)) (.some (138, .false)) 141 .none .false [] .false, .mk (.some 144) (.pick (.t 138) (.k (.bool .true)) (.t 143)) .none 142 .none .false []
  .false]) (.cond (.t 144) (.seq (.reg 143 1 [.mk (.some 2) (.mv (.k (.bool .false))) .none 143 .none .false [] .false]) .ret) .skip)))) (.reg 144 3 [.mk (.some 112) (.mv (.t 6))
  .none 144 .none .false [] .false, .mk (.some 113) (.bin .add (.t 112) (.k (.int .i64 1))) .none 145 .none .false [] .false, .mk (.some 6) (.mv (.t 113)) .none 146 .none .false []
  .false]))))))))) (.reg 147 3 [.mk (.some 79) (.mv (.t 4)) .none 147 .none .false [] .false, .mk (.some 80) (.bin .add (.t 79) (.k (.int .i64 1))) .none 148 .none .false [] .false,
  .mk (.some 4) (.mv (.t 80)) .none 149 .none .false [] .false])))))) (.seq (.seq (.reg 150 1 [.mk (.some 8) (.mv (.k (.int .i64 0))) .none 150 .none .false [] .false]) (.block 6
  (.loop (.seq (.seq (.reg 151 5 [.mk (.some 145) (.mv (.t 8)) .none 151 .none .false [] .false, .mk (.some 146) (.faddr 6 (.t 1)) .none 152 .none .false [] .false, .mk (.some 147)
  (.load 1 .false (.t 146)) .none 153 .none .false [] .false, .mk (.some 148) (.len (.t 147)) .none 154 .none .false [] .false, .mk (.some 149) (.bin .lss (.t 145) (.t 148)) .none
  155 .none .false [] .false]) (.cond (.t 149) .skip (.exit 6))) (.seq (.block 7 (.seq (.reg 156 7 [.mk (.some 152) (.faddr 6 (.t 1)) .none 156 .none .false [] .false, .mk (.some
  153) (.load 1 .false (.t 152)) .none 157 .none .false [] .false, .mk (.some 154) (.mv (.t 8)) .none 158 .none .false [] .false, .mk (.some 155) (.iaddr 2 (.t 153) (.t 154)) .none
  159 .none .false [] .false, .mk (.some 156) (.load 2 .true (.t 155)) .none 160 .none .false [] .false, .mk (.some 9) (.alloc 83 [.int .i64 0, .int .i64 0]) .none 161 .none .false
  [] .false, .mk .none (.store 2 (.t 9) (.t 156)) .none 162 .none .false [] .false]) (.seq (.seq (.reg 163 23 [.mk (.some 157) (.faddr 0 (.t 9)) .none 163 .none .false [] .false,
  .mk (.some 158) (.load 1 .false (.t 157)) .none 164 .none .false [] .false, .mk (.some 159) (.faddr 0 (.t 1)) .none 165 .none .false [] .false, .mk (.some 160) (.load 1 .false (.t
  159)) .none 166 .none .false [] .false, .mk (.some 161) (.bin .sub (.t 160) (.k (.int .i64 1))) .none 167 .none .false [] .false, .mk (.some 162) (.call 46 [.t 158, .k (.int .i64
  0), .t 161]) .none 168 .none .false [] .false, .mk (.some 163) (.un .not (.t 162)) .none 169 .none .false [] .false, .mk (.some 164) (.mv (.t 163)) .none 170 .none .false []
  .false, .mk (.some 165) (.faddr 1 (.t 9)) (.some (164, .false)) 171 .none .false [] .false, .mk (.some 166) (.load 1 .false (.t 165)) (.some (164, .false)) 172 .none .false []
  .false, .mk (.some 167) (.faddr 0 (.t 1)) (.some (164, .false)) 173 .none .false [] .false, .mk (.some 168) (.load 1 .false (.t 167)) (.some (164, .false)) 174 .none .false []
  .false, .mk (.some 169) (.bin .sub (.t 168) (.k (.int .i64 1))) (.some (164, .false)) 175 .none .false [] .false, .mk (.some 170) (.call 46 [.t 166, .k (.int .i64 0), .t 169])
  (.some (164, .false)) 176 .none .false [] .false, .mk (.some 171) (.un .not (.t 170)) (.some (164, .false)) 177 .none .false [] .false, .mk (.some 172) (.pick (.t 164) (.k (.bool
  .true)) (.t 171)) .none 178 .none .false [] .false, .mk (.some 173) (.mv (.t 172)) .none 179 .none .false [] .false, .mk (.some 174) (.faddr 0 (.t 9)) (.some (173, .false)) 180
  .none .false [] .false, .mk (.some 175) (.load 1 .false (.t 174)) (.some (173, .false)) 181 .none .false [] .false, .mk (.some 176) (.faddr 1 (.t 9)) (.some (173, .false)) 182
  .none .false [] .false, .mk (.some 177) (.load 1 .false (.t 176)) (.some (173, .false)) 183 .none .false [] .false, .mk (.some 178) (.bin .eql (.t 175) (.t 177)) (.some (173,
  .false)) 184 .none .false [] .false, .mk (.some 179) (.pick (.t 173) (.k (.bool .true)) (.t 178)) .none 185 .none .false [] .false]) (.cond (.t 179) (.seq (.reg 186 1 [.mk (.some
  2) (.mv (.k (.bool .false))) .none 186 .none .false [] .false]) .ret) .skip)) (.seq (.reg 187 1 [.mk (.some 10) (.mv (.k (.int .i64 0))) .none 187 .none .false [] .false]) (.block
  8 (.loop (.seq (.seq (.reg 188 5 [.mk (.some 180) (.mv (.t 10)) .none 188 .none .false [] .false, .mk (.some 181) (.faddr 6 (.t 1)) .none 189 .none .false [] .false, .mk (.some
  182) (.load 1 .false (.t 181)) .none 190 .none .false [] .false, .mk (.some 183) (.len (.t 182)) .none 191 .none .false [] .false, .mk (.some 184) (.bin .lss (.t 180) (.t 183))
  .none 192 .none .false [] .false]) (.cond (.t 184) .skip (.exit 8))) (.seq (.block 9 (.seq (.draw 193 25 [] [] [.mk (.some 187) (.mv (.t 10)) .none 193 (.some []) .true [] .false,
  .mk (.some 188) (.mv (.t 8)) .none 194 (.some []) .true [] .false, .mk (.some 189) (.bin .neq (.t 187) (.t 188)) .none 195 (.some []) .true [] .false, .mk (.some 190) (.mv (.t
  189)) .none 196 (.some []) .true [] .false, .mk (.some 191) (.faddr 6 (.t 1)) (.some (190, .true)) 197 (.some []) .true [] .false, .mk (.some 192) (.load 1 .false (.t 191)) (.some
  (190, .true)) 198 (.some []) .true [] .false, .mk (.some 193) (.mv (.t 10)) (.some (190, .true)) 199 (.some []) .true [] .false, .mk (.some 194) (.iaddr 2 (.t 192) (.t 193))
  (.some (190, .true)) 200 (.some []) .true [] .false, .mk (.some 195) (.faddr 1 (.t 194)) (.some (190, .true)) 201 (.some []) .true [] .false, .mk (.some 196) (.load 1 .false (.t
  195)) (.some (190, .true)) 202 (.some []) .true [] .false, .mk (.some 197) (.faddr 1 (.t 9)) (.some (190, .true)) 203 (.some []) .true [] .false, .mk (.some 198) (.load 1 .false
  (.t 197)) (.some (190, .true)) 204 (.some []) .true [] .false, .mk (.some 199) (.bin .eql (.t 196) (.t 198)) (.some (190, .true)) 205 (.some []) .true [] .false, .mk (.some 200)
  (.pick (.t 190) (.t 199) (.k (.bool .false))) .none 206 (.some []) .true [] .false, .mk (.some 201) (.mv (.t 200)) .none 207 (.some []) .true [] .false, .mk (.some 202) (.faddr 6
  (.t 1)) (.some (201, .false)) 208 (.some []) .true [] .false, .mk (.some 203) (.load 1 .false (.t 202)) (.some (201, .false)) 209 (.some []) .true [] .false, .mk (.some 204) (.mv
  (.t 10)) (.some (201, .false)) 210 (.some []) .true [] .false, .mk (.some 205) (.iaddr 2 (.t 203) (.t 204)) (.some (201, .false)) 211 (.some []) .true [] .false, .mk (.some 206)
  (.faddr 0 (.t 205)) (.some (201, .false)) 212 (.some []) .true [] .false, .mk (.some 207) (.load 1 .false (.t 206)) (.some (201, .false)) 213 (.some []) .true [] .false, .mk
  (.some 208) (.faddr 1 (.t 9)) (.some (201, .false)) 214 (.some []) .true [] .false, .mk (.some 209) (.load 1 .false (.t 208)) (.some (201, .false)) 215 (.some []) .true [] .false,
  .mk (.some 210) (.bin .eql (.t 207) (.t 209)) (.some (201, .false)) 216 (.some []) .true [] .false, .mk (.some 211) (.pick (.t 201) (.k (.bool .true)) (.t 210)) .none 217 (.some
  []) .true [] .false]) (.cond (.t 211) (.seq (.reg 218 1 [.mk (.some 2) (.mv (.k (.bool .false))) .none 218 .none .false [] .false]) .ret) .skip))) (.reg 219 3 [.mk (.some 185)
  (.mv (.t 10)) .none 219 .none .false [] .false, .mk (.some 186) (.bin .add (.t 185) (.k (.int .i64 1))) .none 220 .none .false [] .false, .mk (.some 10) (.mv (.t 186)) .none 221
  .none .false [] .false]))))))))) (.reg 222 3 [.mk (.some 150) (.mv (.t 8)) .none 222 .none .false [] .false, .mk (.some 151) (.bin .add (.t 150) (.k (.int .i64 1))) .none 223
  .none .false [] .false, .mk (.some 8) (.mv (.t 151)) .none 224 .none .false [] .false])))))) (.seq (.reg 225 1 [.mk (.some 2) (.mv (.k (.bool .true))) .none 225 .none .false []
  .false]) .ret)))))
def rs21 : List IRes := [.tmp 2]
set_option maxRecDepth 100000 in
theorem comp21 : Comp Try.prog 21 ir21 rs21 212 := ⟨⟨_, _, 226, Try.func21, rfl, by kernel_rfl, by kernel_rfl, rfl⟩⟩
theorem body21 : HasBody Try.prog 21 := hasBody_of (by kernel_rfl)

def ir22 : IC :=
  .seq (.reg 0 1 [.mk (.some 2) (.mv (.k (.slice .none 0 0))) .none 0 .none .false [] .false]) (.seq (.reg 1 4 [.mk (.some 3) (.bsl 3 1 0 [] []) .none 1 .none .false [] .false, .mk
  (.some 4) (.mv (.t 0)) .none 2 .none .false [] .false, .mk (.some 5) (.app 3 1 8 (.t 3) (.t 4)) .none 3 .none .false [] .false, .mk (.some 2) (.mv (.t 5)) .none 4 .none .false []
  .false]) .ret)
def rs22 : List IRes := [.tmp 2]
set_option maxRecDepth 100000 in
theorem comp22 : Comp Try.prog 22 ir22 rs22 6 := ⟨⟨_, _, 5, Try.func22, rfl, by kernel_rfl, by kernel_rfl, rfl⟩⟩
theorem body22 : HasBody Try.prog 22 := hasBody_of (by kernel_rfl)

def ir28 : IC :=
  .seq (.reg 0 1 [.mk (.some 4) (.mv (.k (.bool .false))) .none 0 .none .false [] .false]) (.seq (.seq (.reg 1 1 [.mk (.some 5) (.mv (.k (.int .i64 0))) .none 1 .none .false []
  .false]) (.block 0 (.loop (.seq (.seq (.reg 2 4 [.mk (.some 6) (.mv (.t 5)) .none 2 .none .false [] .false, .mk (.some 7) (.mv (.t 0)) .none 3 .none .false [] .false, .mk (.some
  8) (.len (.t 7)) .none 4 .none .false [] .false, .mk (.some 9) (.bin .lss (.t 6) (.t 8)) .none 5 .none .false [] .false]) (.cond (.t 9) .skip (.exit 0))) (.seq (.block 1 (.seq
  (.reg 6 6 [.mk (.some 12) (.mv (.t 0)) .none 6 .none .false [] .false, .mk (.some 13) (.mv (.t 5)) .none 7 .none .false [] .false, .mk (.some 14) (.iaddr 1 (.t 12) (.t 13)) .none
  8 .none .false [] .false, .mk (.some 15) (.load 1 .false (.t 14)) .none 9 .none .false [] .false, .mk (.some 16) (.mv (.t 1)) .none 10 .none .false [] .false, .mk (.some 17) (.bin
  .eql (.t 15) (.t 16)) .none 11 .none .false [] .false]) (.cond (.t 17) (.seq (.reg 12 1 [.mk (.some 4) (.mv (.k (.bool .true))) .none 12 .none .false [] .false]) .ret) .skip)))
  (.reg 13 3 [.mk (.some 10) (.mv (.t 5)) .none 13 .none .false [] .false, .mk (.some 11) (.bin .add (.t 10) (.k (.int .i64 1))) .none 14 .none .false [] .false, .mk (.some 5) (.mv
  (.t 11)) .none 15 .none .false [] .false])))))) (.seq (.reg 16 1 [.mk (.some 4) (.mv (.k (.bool .false))) .none 16 .none .false [] .false]) .ret))
def rs28 : List IRes := [.tmp 4]
set_option maxRecDepth 100000 in
theorem comp28 : Comp Try.prog 28 ir28 rs28 18 := ⟨⟨_, _, 17, Try.func28, rfl, by kernel_rfl, by kernel_rfl, rfl⟩⟩
theorem body28 : HasBody Try.prog 28 := hasBody_of (by kernel_rfl)

def ir30 : IC :=
  .seq (.reg 0 2 [.mk (.some 1) (.box 27 (.t 0)) .none 0 .none .false [] .false, .mk (.some 2) (.mv (.k (.int .i64 0))) .none 1 .none .false [] .false]) (.seq (.seq (.reg 2 1 [.mk
  (.some 3) (.mv (.k (.int .i64 0))) .none 2 .none .false [] .false]) (.block 0 (.loop (.seq (.seq (.reg 3 4 [.mk (.some 4) (.mv (.t 3)) .none 3 .none .false [] .false, .mk (.some
  5) (.faddr 0 (.t 1)) .none 4 .none .false [] .false, .mk (.some 6) (.load 1 .false (.t 5)) .none 5 .none .false [] .false, .mk (.some 7) (.bin .lss (.t 4) (.t 6)) .none 6 .none
  .false [] .false]) (.cond (.t 7) .skip (.exit 0))) (.seq (.block 1 (.seq (.reg 7 12 [.mk (.some 10) (.faddr 1 (.t 1)) .none 7 .none .false [] .false, .mk (.some 11) (.load 2 .true
  (.t 10)) .none 8 .none .false [] .false, .mk (.some 12) (.mv (.t 3)) .none 9 .none .false [] .false, .mk (.some 13) (.call 58 [.t 11, .t 12]) .none 10 .none .false [] .false, .mk
  (.some 14) (.bin .eql (.t 13) (.k (.int .i64 2))) .none 11 .none .false [] .false, .mk (.some 15) (.mv (.t 14)) .none 12 .none .false [] .false, .mk (.some 16) (.faddr 3 (.t 1))
  (.some (15, .true)) 13 .none .false [] .false, .mk (.some 17) (.load 2 .true (.t 16)) (.some (15, .true)) 14 .none .false [] .false, .mk (.some 18) (.mv (.t 3)) (.some (15,
  .true)) 15 .none .false [] .false, .mk (.some 19) (.call 58 [.t 17, .t 18]) (.some (15, .true)) 16 .none .false [] .false, .mk (.some 20) (.bin .eql (.t 19) (.k (.int .i64 2)))
  (.some (15, .true)) 17 .none .false [] .false, .mk (.some 21) (.pick (.t 15) (.t 20) (.k (.bool .false))) .none 18 .none .false [] .false]) (.cond (.t 21) (.seq (.reg 19 2 [.mk
  (.some 22) (.mv (.t 3)) .none 19 .none .false [] .false, .mk (.some 2) (.mv (.t 22)) .none 20 .none .false [] .false]) .ret) .skip))) (.reg 21 3 [.mk (.some 8) (.mv (.t 3)) .none
  21 .none .false [] .false, .mk (.some 9) (.bin .add (.t 8) (.k (.int .i64 1))) .none 22 .none .false [] .false, .mk (.some 3) (.mv (.t 9)) .none 23 .none .false [] .false]))))))
  (.seq (.reg 24 1 [.mk (.some 2) (.mv (.k (.int .i64 (-1)))) .none 24 .none .false [] .false]) .ret))
def rs30 : List IRes := [.tmp 2]
set_option maxRecDepth 100000 in
theorem comp30 : Comp Try.prog 30 ir30 rs30 23 := ⟨⟨_, _, 25, Try.func30, rfl, by kernel_rfl, by kernel_rfl, rfl⟩⟩
theorem body30 : HasBody Try.prog 30 := hasBody_of (by kernel_rfl)

def ir32 : IC :=
  .seq (.reg 0 3 [.mk (.some 2) (.box 27 (.t 0)) .none 0 .none .false [] .false, .mk (.some 3) (.box 48 (.t 1)) .none 1 .none .false [] .false, .mk (.some 4) (.mv (.k (.int .u8 0)))
  .none 2 .none .false [] .false]) (.seq (.seq (.reg 3 8 [.mk (.some 6) (.faddr 0 (.t 3)) .none 3 .none .false [] .false, .mk (.some 7) (.load 1 .false (.t 6)) .none 4 .none .false
  [] .false, .mk (.some 8) (.faddr 1 (.t 3)) .none 5 .none .false [] .false, .mk (.some 9) (.load 1 .false (.t 8)) .none 6 .none .false [] .false, .mk (.some 10) (.bin .add (.t 7)
  (.t 9)) .none 7 .none .false [] .false, .mk (.some 11) (.faddr 9 (.t 2)) .none 8 .none .false [] .false, .mk (.some 12) (.load 1 .false (.t 11)) .none 9 .none .false [] .false,
  .mk (.some 13) (.bin .lss (.t 10) (.t 12)) .none 10 .none .false [] .false]) (.cond (.t 13) (.seq (.reg 11 1 [.mk (.some 4) (.mv (.k (.int .u8 2))) .none 11 .none .false []
  .false]) .ret) .skip)) (.seq (.reg 12 16 [.mk (.some 14) (.faddr 0 (.t 3)) .none 12 .none .false [] .false, .mk (.some 15) (.load 1 .false (.t 14)) .none 13 .none .false []
  .false, .mk (.some 16) (.bin .mul (.k (.int .i64 3)) (.t 15)) .none 14 .none .false [] .false, .mk (.some 17) (.faddr 0 (.t 3)) .none 15 .none .false [] .false, .mk (.some 18)
  (.load 1 .false (.t 17)) .none 16 .none .false [] .false, .mk (.some 19) (.faddr 1 (.t 3)) .none 17 .none .false [] .false, .mk (.some 20) (.load 1 .false (.t 19)) .none 18 .none
  .false [] .false, .mk (.some 21) (.bin .add (.t 18) (.t 20)) .none 19 .none .false [] .false, .mk (.some 22) (.bin .mul (.k (.int .i64 2)) (.t 21)) .none 20 .none .false []
  .false, .mk (.some 23) (.bin .geq (.t 16) (.t 22)) .none 21 .none .false [] .false, .mk (.some 24) (.mv (.t 23)) .none 22 .none .false [] .false, .mk (.some 25) (.faddr 0 (.t 3))
  (.some (24, .true)) 23 .none .false [] .false, .mk (.some 26) (.load 1 .false (.t 25)) (.some (24, .true)) 24 .none .false [] .false, .mk (.some 27) (.bin .geq (.t 26) (.k (.int
  .i64 1))) (.some (24, .true)) 25 .none .false [] .false, .mk (.some 28) (.pick (.t 24) (.t 27) (.k (.bool .false))) .none 26 .none .false [] .false, .mk (.some 5) (.mv (.t 28))
  .none 27 .none .false [] .false]) (.seq (.seq (.reg 28 3 [.mk (.some 29) (.faddr 7 (.t 2)) .none 28 .none .false [] .false, .mk (.some 30) (.load 1 .false (.t 29)) .none 29 .none
  .false [] .false, .mk (.some 31) (.bin .eql (.t 30) (.k (.int .u8 0))) .none 30 .none .false [] .false]) (.cond (.t 31) (.reg 31 18 [.mk (.some 32) (.faddr 0 (.t 3)) .none 31
  .none .false [] .false, .mk (.some 33) (.load 1 .false (.t 32)) .none 32 .none .false [] .false, .mk (.some 34) (.faddr 1 (.t 3)) .none 33 .none .false [] .false, .mk (.some 35)
  (.load 1 .false (.t 34)) .none 34 .none .false [] .false, .mk (.some 36) (.bin .gtr (.t 33) (.t 35)) .none 35 .none .false [] .false, .mk (.some 37) (.mv (.t 36)) .none 36 .none
  .false [] .false, .mk (.some 38) (.faddr 0 (.t 3)) (.some (37, .false)) 37 .none .false [] .false, .mk (.some 39) (.load 1 .false (.t 38)) (.some (37, .false)) 38 .none .false []
  .false, .mk (.some 40) (.faddr 1 (.t 3)) (.some (37, .false)) 39 .none .false [] .false, .mk (.some 41) (.load 1 .false (.t 40)) (.some (37, .false)) 40 .none .false [] .false,
  .mk (.some 42) (.bin .eql (.t 39) (.t 41)) (.some (37, .false)) 41 .none .false [] .false, .mk (.some 43) (.mv (.t 42)) (.some (37, .false)) 42 .none .false [] .false, .mk (.some
  44) (.faddr 10 (.t 2)) (.some (43, .true)) 43 .none .false [] .false, .mk (.some 45) (.load 1 .false (.t 44)) (.some (43, .true)) 44 .none .false [] .false, .mk (.some 46) (.bin
  .eql (.t 45) (.k (.int .u8 1))) (.some (43, .true)) 45 .none .false [] .false, .mk (.some 47) (.pick (.t 43) (.t 46) (.k (.bool .false))) (.some (37, .false)) 46 .none .false []
  .false, .mk (.some 48) (.pick (.t 37) (.k (.bool .true)) (.t 47)) .none 47 .none .false [] .false, .mk (.some 5) (.mv (.t 48)) .none 48 .none .false [] .false]) .skip)) (.seq
  (.seq (.reg 49 3 [.mk (.some 49) (.faddr 7 (.t 2)) .none 49 .none .false [] .false, .mk (.some 50) (.load 1 .false (.t 49)) .none 50 .none .false [] .false, .mk (.some 51) (.bin
  .eql (.t 50) (.k (.int .u8 1))) .none 51 .none .false [] .false]) (.cond (.t 51) (.reg 52 19 [.mk (.some 52) (.faddr 0 (.t 3)) .none 52 .none .false [] .false, .mk (.some 53)
  (.load 1 .false (.t 52)) .none 53 .none .false [] .false, .mk (.some 54) (.faddr 8 (.t 2)) .none 54 .none .false [] .false, .mk (.some 55) (.load 1 .false (.t 54)) .none 55 .none
  .false [] .false, .mk (.some 56) (.bin .geq (.t 53) (.t 55)) .none 56 .none .false [] .false, .mk (.some 57) (.mv (.t 56)) .none 57 .none .false [] .false, .mk (.some 58) (.faddr
  0 (.t 3)) (.some (57, .false)) 58 .none .false [] .false, .mk (.some 59) (.load 1 .false (.t 58)) (.some (57, .false)) 59 .none .false [] .false, .mk (.some 60) (.bin .add (.t 59)
  (.k (.int .i64 1))) (.some (57, .false)) 60 .none .false [] .false, .mk (.some 61) (.faddr 8 (.t 2)) (.some (57, .false)) 61 .none .false [] .false, .mk (.some 62) (.load 1 .false
  (.t 61)) (.some (57, .false)) 62 .none .false [] .false, .mk (.some 63) (.bin .eql (.t 60) (.t 62)) (.some (57, .false)) 63 .none .false [] .false, .mk (.some 64) (.mv (.t 63))
  (.some (57, .false)) 64 .none .false [] .false, .mk (.some 65) (.faddr 10 (.t 2)) (.some (64, .true)) 65 .none .false [] .false, .mk (.some 66) (.load 1 .false (.t 65)) (.some
  (64, .true)) 66 .none .false [] .false, .mk (.some 67) (.bin .eql (.t 66) (.k (.int .u8 1))) (.some (64, .true)) 67 .none .false [] .false, .mk (.some 68) (.pick (.t 64) (.t 67)
  (.k (.bool .false))) (.some (57, .false)) 68 .none .false [] .false, .mk (.some 69) (.pick (.t 57) (.k (.bool .true)) (.t 68)) .none 69 .none .false [] .false, .mk (.some 5) (.mv
  (.t 69)) .none 70 .none .false [] .false]) .skip)) (.seq (.seq (.reg 71 1 [.mk (.some 70) (.mv (.t 5)) .none 71 .none .false [] .false]) (.cond (.t 70) (.seq (.reg 72 1 [.mk
  (.some 4) (.mv (.k (.int .u8 1))) .none 72 .none .false [] .false]) .ret) .skip)) (.seq (.reg 73 1 [.mk (.some 4) (.mv (.k (.int .u8 0))) .none 73 .none .false [] .false])
  .ret))))))
def rs32 : List IRes := [.tmp 4]
set_option maxRecDepth 100000 in
theorem comp32 : Comp Try.prog 32 ir32 rs32 71 := ⟨⟨_, _, 74, Try.func32, rfl, by kernel_rfl, by kernel_rfl, rfl⟩⟩
theorem body32 : HasBody Try.prog 32 := hasBody_of (by kernel_rfl)

def ir33 : IC :=
  .seq (.reg 0 1 [.mk (.some 4) (.mv (.k (.bool .false))) .none 0 .none .false [] .false]) (.seq (.seq (.reg 1 5 [.mk (.some 6) (.mv (.t 0)) .none 1 .none .false [] .false, .mk (.some
  7) (.len (.t 6)) .none 2 .none .false [] .false, .mk (.some 8) (.mv (.t 1)) .none 3 .none .false [] .false, .mk (.some 9) (.len (.t 8)) .none 4 .none .false [] .false, .mk (.some
  10) (.bin .neq (.t 7) (.t 9)) .none 5 .none .false [] .false]) (.cond (.t 10) (.seq (.reg 6 1 [.mk (.some 4) (.mv (.k (.bool .false))) .none 6 .none .false [] .false]) .ret)
  .skip)) (.seq (.seq (.reg 7 1 [.mk (.some 5) (.mv (.k (.int .i64 0))) .none 7 .none .false [] .false]) (.block 0 (.loop (.seq (.seq (.reg 8 4 [.mk (.some 11) (.mv (.t 5)) .none 8
  .none .false [] .false, .mk (.some 12) (.mv (.t 0)) .none 9 .none .false [] .false, .mk (.some 13) (.len (.t 12)) .none 10 .none .false [] .false, .mk (.some 14) (.bin .lss (.t
  11) (.t 13)) .none 11 .none .false [] .false]) (.cond (.t 14) .skip (.exit 0))) (.seq (.block 1 (.seq (.draw 12 9 [] [] [.mk (.some 17) (.mv (.t 0)) .none 12 (.some []) .true []
  .false, .mk (.some 18) (.mv (.t 5)) .none 13 (.some []) .true [] .false, .mk (.some 19) (.iaddr 1 (.t 17) (.t 18)) .none 14 (.some []) .true [] .false, .mk (.some 20) (.load 1
  .false (.t 19)) .none 15 (.some []) .true [] .false, .mk (.some 21) (.mv (.t 1)) .none 16 (.some []) .true [] .false, .mk (.some 22) (.mv (.t 5)) .none 17 (.some []) .true []
  .false, .mk (.some 23) (.iaddr 1 (.t 21) (.t 22)) .none 18 (.some []) .true [] .false, .mk (.some 24) (.load 1 .false (.t 23)) .none 19 (.some []) .true [] .false, .mk (.some 25)
  (.bin .neq (.t 20) (.t 24)) .none 20 (.some []) .true [] .false]) (.cond (.t 25) (.seq (.reg 21 1 [.mk (.some 4) (.mv (.k (.bool .false))) .none 21 .none .false [] .false]) .ret)
  .skip))) (.reg 22 3 [.mk (.some 15) (.mv (.t 5)) .none 22 .none .false [] .false, .mk (.some 16) (.bin .add (.t 15) (.k (.int .i64 1))) .none 23 .none .false [] .false, .mk (.some
  5) (.mv (.t 16)) .none 24 .none .false [] .false])))))) (.seq (.reg 25 1 [.mk (.some 4) (.mv (.k (.bool .true))) .none 25 .none .false [] .false]) .ret)))
def rs33 : List IRes := [.tmp 4]
set_option maxRecDepth 100000 in
theorem comp33 : Comp Try.prog 33 ir33 rs33 26 := ⟨⟨_, _, 26, Try.func33, rfl, by kernel_rfl, by kernel_rfl, rfl⟩⟩
theorem body33 : HasBody Try.prog 33 := hasBody_of (by kernel_rfl)

def ir44 : IC :=
  .seq (.reg 0 2 [.mk (.some 3) (.box 27 (.t 0)) .none 0 .none .false [] .false, .mk (.some 6) (.mv (.k (.bool .false))) .none 1 .none .false [] .false]) (.seq (.draw 2 10 [1, 3] []
  [.mk (.some 9) (.faddr 1 (.t 3)) .none 2 (.some []) .true [] .false, .mk (.some 10) (.load 2 .true (.t 9)) .none 3 (.some []) .true [] .false, .mk (.some 11) (.mv (.t 1)) .none 4
  (.some []) .true [] .false, .mk (.some 12) (.call 58 [.t 10, .t 11]) .none 5 (.some []) .true [] .false, .mk (.some 13) (.faddr 3 (.t 3)) .none 6 (.some []) .true [] .false, .mk
  (.some 14) (.load 2 .true (.t 13)) .none 7 (.some []) .true [] .false, .mk (.some 15) (.mv (.t 1)) .none 8 (.some []) .true [] .false, .mk (.some 16) (.call 58 [.t 14, .t 15])
  .none 9 (.some [5]) .false [] .false, .mk (.some 7) (.mv (.t 12)) .none 10 (.some [9, 5]) .true [] .false, .mk (.some 8) (.mv (.t 16)) .none 11 (.some [5, 9]) .true [] .false])
  (.seq (.seq (.reg 12 1 [.mk (.some 17) (.mv (.t 2)) .none 12 .none .false [] .false]) (.block 0 (.seq (.reg 13 2 [.mk (.some 19) (.bin .eql (.t 17) (.k (.int .u8 0))) .none 13
  .none .false [] .false, .mk (.some 18) (.mv (.t 19)) .none 14 .none .false [] .false]) (.cond (.t 18) (.seq (.reg 15 7 [.mk (.some 20) (.mv (.t 7)) .none 15 .none .false []
  .false, .mk (.some 21) (.bin .lss (.t 20) (.k (.int .i64 2))) .none 16 .none .false [] .false, .mk (.some 22) (.mv (.t 21)) .none 17 .none .false [] .false, .mk (.some 23) (.mv
  (.t 8)) (.some (22, .true)) 18 .none .false [] .false, .mk (.some 24) (.bin .lss (.t 23) (.k (.int .i64 2))) (.some (22, .true)) 19 .none .false [] .false, .mk (.some 25) (.pick
  (.t 22) (.t 24) (.k (.bool .false))) .none 20 .none .false [] .false, .mk (.some 6) (.mv (.t 25)) .none 21 .none .false [] .false]) .ret) (.seq (.reg 22 2 [.mk (.some 27) (.bin
  .eql (.t 17) (.k (.int .u8 1))) .none 22 .none .false [] .false, .mk (.some 26) (.mv (.t 27)) .none 23 .none .false [] .false]) (.cond (.t 26) (.seq (.reg 24 7 [.mk (.some 28)
  (.mv (.t 7)) .none 24 .none .false [] .false, .mk (.some 29) (.bin .gtr (.t 28) (.k (.int .i64 0))) .none 25 .none .false [] .false, .mk (.some 30) (.mv (.t 29)) .none 26 .none
  .false [] .false, .mk (.some 31) (.mv (.t 8)) (.some (30, .true)) 27 .none .false [] .false, .mk (.some 32) (.bin .lss (.t 31) (.k (.int .i64 2))) (.some (30, .true)) 28 .none
  .false [] .false, .mk (.some 33) (.pick (.t 30) (.t 32) (.k (.bool .false))) .none 29 .none .false [] .false, .mk (.some 6) (.mv (.t 33)) .none 30 .none .false [] .false]) .ret)
  .skip)))))) (.seq (.reg 31 11 [.mk (.some 34) (.mv (.t 2)) .none 31 .none .false [] .false, .mk (.some 35) (.bin .eql (.t 34) (.k (.int .u8 2))) .none 32 .none .false [] .false,
  .mk (.some 36) (.mv (.t 35)) .none 33 .none .false [] .false, .mk (.some 37) (.mv (.t 8)) (.some (36, .true)) 34 .none .false [] .false, .mk (.some 38) (.bin .gtr (.t 37) (.k
  (.int .i64 0))) (.some (36, .true)) 35 .none .false [] .false, .mk (.some 39) (.pick (.t 36) (.t 38) (.k (.bool .false))) .none 36 .none .false [] .false, .mk (.some 40) (.mv (.t
  39)) .none 37 .none .false [] .false, .mk (.some 41) (.mv (.t 7)) (.some (40, .true)) 38 .none .false [] .false, .mk (.some 42) (.bin .lss (.t 41) (.k (.int .i64 2))) (.some (40,
  .true)) 39 .none .false [] .false, .mk (.some 43) (.pick (.t 40) (.t 42) (.k (.bool .false))) .none 40 .none .false [] .false, .mk (.some 6) (.mv (.t 43)) .none 41 .none .false []
  .false]) .ret)))
def rs44 : List IRes := [.tmp 6]
set_option maxRecDepth 100000 in
theorem comp44 : Comp Try.prog 44 ir44 rs44 44 := ⟨⟨_, _, 42, Try.func44, rfl, by kernel_rfl, by kernel_rfl, rfl⟩⟩
theorem body44 : HasBody Try.prog 44 := hasBody_of (by kernel_rfl)

def ir45 : IC :=
  .seq (.reg 0 2 [.mk (.some 2) (.box 27 (.t 0)) .none 0 .none .false [] .false, .mk (.some 4) (.mv (.k (.bool .false))) .none 1 .none .false [] .false]) (.seq (.seq (.reg 2 1 [.mk
  (.some 5) (.mv (.k (.int .i64 0))) .none 2 .none .false [] .false]) (.block 0 (.loop (.seq (.seq (.reg 3 5 [.mk (.some 6) (.mv (.t 5)) .none 3 .none .false [] .false, .mk (.some
  7) (.faddr 5 (.t 2)) .none 4 .none .false [] .false, .mk (.some 8) (.load 1 .false (.t 7)) .none 5 .none .false [] .false, .mk (.some 9) (.len (.t 8)) .none 6 .none .false []
  .false, .mk (.some 10) (.bin .lss (.t 6) (.t 9)) .none 7 .none .false [] .false]) (.cond (.t 10) .skip (.exit 0))) (.seq (.block 1 (.seq (.reg 8 18 [.mk (.some 13) (.faddr 5 (.t
  2)) .none 8 .none .false [] .false, .mk (.some 14) (.load 1 .false (.t 13)) .none 9 .none .false [] .false, .mk (.some 15) (.mv (.t 5)) .none 10 .none .false [] .false, .mk (.some
  16) (.iaddr 2 (.t 14) (.t 15)) .none 11 .none .false [] .false, .mk (.some 17) (.faddr 0 (.t 16)) .none 12 .none .false [] .false, .mk (.some 18) (.load 1 .false (.t 17)) .none 13
  .none .false [] .false, .mk (.some 19) (.mv (.t 1)) .none 14 .none .false [] .false, .mk (.some 20) (.bin .eql (.t 18) (.t 19)) .none 15 .none .false [] .false, .mk (.some 21)
  (.mv (.t 20)) .none 16 .none .false [] .false, .mk (.some 22) (.faddr 5 (.t 2)) (.some (21, .false)) 17 .none .false [] .false, .mk (.some 23) (.load 1 .false (.t 22)) (.some (21,
  .false)) 18 .none .false [] .false, .mk (.some 24) (.mv (.t 5)) (.some (21, .false)) 19 .none .false [] .false, .mk (.some 25) (.iaddr 2 (.t 23) (.t 24)) (.some (21, .false)) 20
  .none .false [] .false, .mk (.some 26) (.faddr 1 (.t 25)) (.some (21, .false)) 21 .none .false [] .false, .mk (.some 27) (.load 1 .false (.t 26)) (.some (21, .false)) 22 .none
  .false [] .false, .mk (.some 28) (.mv (.t 1)) (.some (21, .false)) 23 .none .false [] .false, .mk (.some 29) (.bin .eql (.t 27) (.t 28)) (.some (21, .false)) 24 .none .false []
  .false, .mk (.some 30) (.pick (.t 21) (.k (.bool .true)) (.t 29)) .none 25 .none .false [] .false]) (.cond (.t 30) (.seq (.reg 26 1 [.mk (.some 4) (.mv (.k (.bool .true))) .none
  26 .none .false [] .false]) .ret) .skip))) (.reg 27 3 [.mk (.some 11) (.mv (.t 5)) .none 27 .none .false [] .false, .mk (.some 12) (.bin .add (.t 11) (.k (.int .i64 1))) .none 28
  .none .false [] .false, .mk (.some 5) (.mv (.t 12)) .none 29 .none .false [] .false])))))) (.seq (.reg 30 1 [.mk (.some 4) (.mv (.k (.bool .false))) .none 30 .none .false []
  .false]) .ret))
def rs45 : List IRes := [.tmp 4]
set_option maxRecDepth 100000 in
theorem comp45 : Comp Try.prog 45 ir45 rs45 31 := ⟨⟨_, _, 31, Try.func45, rfl, by kernel_rfl, by kernel_rfl, rfl⟩⟩
theorem body45 : HasBody Try.prog 45 := hasBody_of (by kernel_rfl)

def ir46 : IC :=
  .seq (.reg 0 1 [.mk (.some 6) (.mv (.k (.bool .false))) .none 0 .none .false [] .false]) (.seq (.reg 1 9 [.mk (.some 7) (.mv (.t 0)) .none 1 .none .false [] .false, .mk (.some 8)
  (.mv (.t 1)) .none 2 .none .false [] .false, .mk (.some 9) (.bin .geq (.t 7) (.t 8)) .none 3 .none .false [] .false, .mk (.some 10) (.mv (.t 9)) .none 4 .none .false [] .false,
  .mk (.some 11) (.mv (.t 0)) (.some (10, .true)) 5 .none .false [] .false, .mk (.some 12) (.mv (.t 2)) (.some (10, .true)) 6 .none .false [] .false, .mk (.some 13) (.bin .leq (.t
  11) (.t 12)) (.some (10, .true)) 7 .none .false [] .false, .mk (.some 14) (.pick (.t 10) (.t 13) (.k (.bool .false))) .none 8 .none .false [] .false, .mk (.some 6) (.mv (.t 14))
  .none 9 .none .false [] .false]) .ret)
def rs46 : List IRes := [.tmp 6]
set_option maxRecDepth 100000 in
theorem comp46 : Comp Try.prog 46 ir46 rs46 15 := ⟨⟨_, _, 10, Try.func46, rfl, by kernel_rfl, by kernel_rfl, rfl⟩⟩
theorem body46 : HasBody Try.prog 46 := hasBody_of (by kernel_rfl)

def ir47 : IC :=
  .seq (.reg 0 2 [.mk (.some 2) (.box 27 (.t 0)) .none 0 .none .false [] .false, .mk (.some 4) (.mv (.k (.bool .false))) .none 1 .none .false [] .false]) (.seq (.seq (.reg 2 1 [.mk
  (.some 5) (.mv (.k (.int .i64 0))) .none 2 .none .false [] .false]) (.block 0 (.loop (.seq (.seq (.reg 3 4 [.mk (.some 6) (.mv (.t 5)) .none 3 .none .false [] .false, .mk (.some
  7) (.mv (.t 1)) .none 4 .none .false [] .false, .mk (.some 8) (.len (.t 7)) .none 5 .none .false [] .false, .mk (.some 9) (.bin .lss (.t 6) (.t 8)) .none 6 .none .false []
  .false]) (.cond (.t 9) .skip (.exit 0))) (.seq (.block 1 (.seq (.draw 7 9 [] [] [.mk (.some 12) (.mv (.t 1)) .none 7 (.some []) .true [] .false, .mk (.some 13) (.mv (.t 5)) .none
  8 (.some []) .true [] .false, .mk (.some 14) (.iaddr 1 (.t 12) (.t 13)) .none 9 (.some []) .true [] .false, .mk (.some 15) (.load 1 .false (.t 14)) .none 10 (.some []) .true []
  .false, .mk (.some 16) (.faddr 0 (.t 2)) .none 11 (.some []) .true [] .false, .mk (.some 17) (.load 1 .false (.t 16)) .none 12 (.some []) .true [] .false, .mk (.some 18) (.bin
  .sub (.t 17) (.k (.int .i64 1))) .none 13 (.some []) .true [] .false, .mk (.some 19) (.call 46 [.t 15, .k (.int .i64 0), .t 18]) .none 14 (.some []) .true [] .false, .mk (.some
  20) (.un .not (.t 19)) .none 15 (.some [14]) .true [] .false]) (.cond (.t 20) (.seq (.reg 16 1 [.mk (.some 4) (.mv (.k (.bool .false))) .none 16 .none .false [] .false]) .ret)
  .skip))) (.reg 17 3 [.mk (.some 10) (.mv (.t 5)) .none 17 .none .false [] .false, .mk (.some 11) (.bin .add (.t 10) (.k (.int .i64 1))) .none 18 .none .false [] .false, .mk (.some
  5) (.mv (.t 11)) .none 19 .none .false [] .false])))))) (.seq (.reg 20 3 [.mk (.some 21) (.mv (.t 1)) .none 20 .none .false [] .false, .mk (.some 22) (.call 71 [.t 21]) .none 21
  .none .false [] .false, .mk (.some 4) (.mv (.t 22)) .none 22 .none .false [] .false]) .ret))
def rs47 : List IRes := [.tmp 4]
set_option maxRecDepth 100000 in
theorem comp47 : Comp Try.prog 47 ir47 rs47 23 := ⟨⟨_, _, 23, Try.func47, rfl, by kernel_rfl, by kernel_rfl, rfl⟩⟩
theorem body47 : HasBody Try.prog 47 := hasBody_of (by kernel_rfl)

def ir58 : IC :=
  .seq (.reg 0 2 [.mk (.some 2) (.box 23 (.t 0)) .none 0 .none .false [] .false, .mk (.some 4) (.mv (.k (.int .i64 0))) .none 1 .none .false [] .false]) (.seq (.reg 2 1 [.mk (.some 5)
  (.mv (.k (.int .i64 0))) .none 2 .none .false [] .false]) (.seq (.seq (.reg 3 1 [.mk (.some 6) (.mv (.k (.int .i64 0))) .none 3 .none .false [] .false]) (.block 0 (.loop (.seq
  (.seq (.reg 4 2 [.mk (.some 7) (.mv (.t 6)) .none 4 .none .false [] .false, .mk (.some 8) (.bin .lss (.t 7) (.k (.int .i64 2))) .none 5 .none .false [] .false]) (.cond (.t 8)
  .skip (.exit 0))) (.seq (.block 1 (.seq (.reg 6 5 [.mk (.some 11) (.mv (.t 6)) .none 6 .none .false [] .false, .mk (.some 12) (.aaddr 1 2 (.t 2) (.t 11)) .none 7 .none .false []
  .false, .mk (.some 13) (.load 1 .false (.t 12)) .none 8 .none .false [] .false, .mk (.some 14) (.mv (.t 1)) .none 9 .none .false [] .false, .mk (.some 15) (.call 28 [.t 13, .t
  14]) .none 10 .none .false [] .false]) (.cond (.t 15) (.reg 11 3 [.mk (.some 16) (.mv (.t 5)) .none 11 .none .false [] .false, .mk (.some 17) (.bin .add (.t 16) (.k (.int .i64
  1))) .none 12 .none .false [] .false, .mk (.some 5) (.mv (.t 17)) .none 13 .none .false [] .false]) .skip))) (.reg 14 3 [.mk (.some 9) (.mv (.t 6)) .none 14 .none .false []
  .false, .mk (.some 10) (.bin .add (.t 9) (.k (.int .i64 1))) .none 15 .none .false [] .false, .mk (.some 6) (.mv (.t 10)) .none 16 .none .false [] .false])))))) (.seq (.reg 17 2
  [.mk (.some 18) (.mv (.t 5)) .none 17 .none .false [] .false, .mk (.some 4) (.mv (.t 18)) .none 18 .none .false [] .false]) .ret)))
def rs58 : List IRes := [.tmp 4]
set_option maxRecDepth 100000 in
theorem comp58 : Comp Try.prog 58 ir58 rs58 19 := ⟨⟨_, _, 19, Try.func58, rfl, by kernel_rfl, by kernel_rfl, rfl⟩⟩
theorem body58 : HasBody Try.prog 58 := hasBody_of (by kernel_rfl)

def ir71 : IC :=
  .seq (.reg 0 1 [.mk (.some 2) (.mv (.k (.bool .false))) .none 0 .none .false [] .false]) (.seq (.seq (.reg 1 1 [.mk (.some 3) (.mv (.k (.int .i64 1))) .none 1 .none .false []
  .false]) (.block 0 (.loop (.seq (.seq (.reg 2 4 [.mk (.some 4) (.mv (.t 3)) .none 2 .none .false [] .false, .mk (.some 5) (.mv (.t 0)) .none 3 .none .false [] .false, .mk (.some
  6) (.len (.t 5)) .none 4 .none .false [] .false, .mk (.some 7) (.bin .lss (.t 4) (.t 6)) .none 5 .none .false [] .false]) (.cond (.t 7) .skip (.exit 0))) (.seq (.block 1 (.seq
  (.draw 6 10 [] [] [.mk (.some 10) (.mv (.t 0)) .none 6 (.some []) .true [] .false, .mk (.some 11) (.mv (.t 3)) .none 7 (.some []) .true [] .false, .mk (.some 12) (.iaddr 1 (.t 10)
  (.t 11)) .none 8 (.some []) .true [] .false, .mk (.some 13) (.load 1 .false (.t 12)) .none 9 (.some []) .true [] .false, .mk (.some 14) (.mv (.t 0)) .none 10 (.some []) .true []
  .false, .mk (.some 15) (.mv (.t 3)) .none 11 (.some []) .true [] .false, .mk (.some 16) (.bin .sub (.t 15) (.k (.int .i64 1))) .none 12 (.some []) .true [] .false, .mk (.some 17)
  (.iaddr 1 (.t 14) (.t 16)) .none 13 (.some []) .true [] .false, .mk (.some 18) (.load 1 .false (.t 17)) .none 14 (.some []) .true [] .false, .mk (.some 19) (.bin .leq (.t 13) (.t
  18)) .none 15 (.some []) .true [] .false]) (.cond (.t 19) (.seq (.reg 16 1 [.mk (.some 2) (.mv (.k (.bool .false))) .none 16 .none .false [] .false]) .ret) .skip))) (.reg 17 3
  [.mk (.some 8) (.mv (.t 3)) .none 17 .none .false [] .false, .mk (.some 9) (.bin .add (.t 8) (.k (.int .i64 1))) .none 18 .none .false [] .false, .mk (.some 3) (.mv (.t 9)) .none
  19 .none .false [] .false])))))) (.seq (.reg 20 1 [.mk (.some 2) (.mv (.k (.bool .true))) .none 20 .none .false [] .false]) .ret))
def rs71 : List IRes := [.tmp 2]
set_option maxRecDepth 100000 in
theorem comp71 : Comp Try.prog 71 ir71 rs71 20 := ⟨⟨_, _, 21, Try.func71, rfl, by kernel_rfl, by kernel_rfl, rfl⟩⟩
theorem body71 : HasBody Try.prog 71 := hasBody_of (by kernel_rfl)

def ir12 : IC :=
  .seq (.reg 0 2 [.mk (.some 1) (.box 27 (.t 0)) .none 0 .none .false [] .false, .mk (.some 2) (.alloc 36 [.int .i64 0, .slice .none 0 0, .slice .none 0 0, .slice .none 0 0, .slice
  .none 0 0, .slice .none 0 0, .slice .none 0 0, .int .u8 0, .int .i64 0, .int .i64 0, .int .u8 0]) .none 1 .none .false [] .false]) (.seq (.reg 2 13 [.mk (.some 7) (.faddr 0 (.t
  1)) .none 2 .none .false [] .false, .mk (.some 8) (.load 1 .false (.t 7)) .none 3 .none .false [] .false, .mk (.some 9) (.faddr 7 (.t 1)) .none 4 .none .false [] .false, .mk
  (.some 10) (.load 1 .false (.t 9)) .none 5 .none .false [] .false, .mk (.some 11) (.faddr 8 (.t 1)) .none 6 .none .false [] .false, .mk (.some 12) (.load 1 .false (.t 11)) .none 7
  .none .false [] .false, .mk (.some 13) (.faddr 9 (.t 1)) .none 8 .none .false [] .false, .mk (.some 14) (.load 1 .false (.t 13)) .none 9 .none .false [] .false, .mk (.some 15)
  (.faddr 10 (.t 1)) .none 10 .none .false [] .false, .mk (.some 16) (.load 1 .false (.t 15)) .none 11 .none .false [] .false, .mk (.some 17) (.bld [(0, 1), (1, 2), (3, 2), (5, 1),
  (6, 1), (7, 1), (8, 1), (9, 1), (10, 1)] [.int .i64 0, .slice .none 0 0, .slice .none 0 0, .slice .none 0 0, .slice .none 0 0, .slice .none 0 0, .slice .none 0 0, .int .u8 0, .int
  .i64 0, .int .i64 0, .int .u8 0] [(0, .t 8), (5, .t 10), (6, .t 12), (7, .t 14), (8, .t 16)]) .none 12 .none .false [] .false, .mk (.some 3) (.alloc 36 [.int .i64 0, .slice .none
  0 0, .slice .none 0 0, .slice .none 0 0, .slice .none 0 0, .slice .none 0 0, .slice .none 0 0, .int .u8 0, .int .i64 0, .int .i64 0, .int .u8 0]) .none 13 .none .false [] .false,
  .mk .none (.store 11 (.t 3) (.t 17)) .none 14 .none .false [] .false]) (.seq (.seq (.reg 15 1 [.mk (.some 4) (.mv (.k (.int .i64 0))) .none 15 .none .false [] .false]) (.block 0
  (.loop (.seq (.seq (.reg 16 2 [.mk (.some 18) (.mv (.t 4)) .none 16 .none .false [] .false, .mk (.some 19) (.bin .lss (.t 18) (.k (.int .i64 2))) .none 17 .none .false [] .false])
  (.cond (.t 19) .skip (.exit 0))) (.seq (.block 1 (.draw 18 18 [] [] [.mk (.some 22) (.mv (.t 4)) .none 18 (.some []) .true [] .false, .mk (.some 23) (.mv (.t 4)) .none 19 (.some
  []) .true [] .false, .mk (.some 24) (.mv (.t 4)) .none 20 (.some []) .true [] .false, .mk (.some 25) (.faddr 1 (.t 1)) .none 21 (.some []) .true [] .false, .mk (.some 26) (.aaddr
  1 2 (.t 25) (.t 24)) .none 22 (.some []) .true [] .false, .mk (.some 27) (.load 1 .false (.t 26)) .none 23 (.some []) .true [] .false, .mk (.some 28) (.call 22 [.t 27]) .none 24
  (.some []) .true [] .false, .mk (.some 29) (.mv (.t 4)) .none 25 (.some []) .true [] .false, .mk (.some 30) (.faddr 3 (.t 1)) .none 26 (.some []) .true [] .false, .mk (.some 31)
  (.aaddr 1 2 (.t 30) (.t 29)) .none 27 (.some []) .true [] .false, .mk (.some 32) (.load 1 .false (.t 31)) .none 28 (.some []) .true [] .false, .mk (.some 33) (.call 22 [.t 32])
  .none 29 (.some [24]) .false [] .false, .mk (.some 34) (.faddr 1 (.t 3)) .none 30 (.some []) .true [] .false, .mk (.some 35) (.aaddr 1 2 (.t 34) (.t 22)) .none 31 (.some [24])
  .true [] .false, .mk .none (.store 1 (.t 35) (.t 28)) .none 32 (.some [29, 24]) .true [] .false, .mk (.some 36) (.faddr 3 (.t 3)) .none 33 (.some []) .true [] .false, .mk (.some
  37) (.aaddr 1 2 (.t 36) (.t 23)) .none 34 (.some [29, 24]) .true [] .false, .mk .none (.store 1 (.t 37) (.t 33)) .none 35 (.some [24, 29]) .true [] .false])) (.reg 36 3 [.mk
  (.some 20) (.mv (.t 4)) .none 36 .none .false [] .false, .mk (.some 21) (.bin .add (.t 20) (.k (.int .i64 1))) .none 37 .none .false [] .false, .mk (.some 4) (.mv (.t 21)) .none
  38 .none .false [] .false])))))) (.seq (.seq (.reg 39 1 [.mk (.some 5) (.mv (.k (.int .i64 0))) .none 39 .none .false [] .false]) (.block 2 (.loop (.seq (.seq (.reg 40 5 [.mk
  (.some 38) (.mv (.t 5)) .none 40 .none .false [] .false, .mk (.some 39) (.faddr 5 (.t 1)) .none 41 .none .false [] .false, .mk (.some 40) (.load 1 .false (.t 39)) .none 42 .none
  .false [] .false, .mk (.some 41) (.len (.t 40)) .none 43 .none .false [] .false, .mk (.some 42) (.bin .lss (.t 38) (.t 41)) .none 44 .none .false [] .false]) (.cond (.t 42) .skip
  (.exit 2))) (.seq (.block 3 (.draw 45 19 [] [] [.mk (.some 45) (.faddr 5 (.t 3)) .none 45 (.some []) .true [] .false, .mk (.some 46) (.load 1 .false (.t 45)) .none 46 (.some [])
  .true [] .false, .mk (.some 47) (.faddr 5 (.t 1)) .none 47 (.some []) .true [] .false, .mk (.some 48) (.load 1 .false (.t 47)) .none 48 (.some []) .true [] .false, .mk (.some 49)
  (.mv (.t 5)) .none 49 (.some []) .true [] .false, .mk (.some 50) (.iaddr 2 (.t 48) (.t 49)) .none 50 (.some []) .true [] .false, .mk (.some 51) (.faddr 0 (.t 50)) .none 51 (.some
  []) .true [] .false, .mk (.some 52) (.load 1 .false (.t 51)) .none 52 (.some []) .true [] .false, .mk (.some 53) (.faddr 5 (.t 1)) .none 53 (.some []) .true [] .false, .mk (.some
  54) (.load 1 .false (.t 53)) .none 54 (.some []) .true [] .false, .mk (.some 55) (.mv (.t 5)) .none 55 (.some []) .true [] .false, .mk (.some 56) (.iaddr 2 (.t 54) (.t 55)) .none
  56 (.some []) .true [] .false, .mk (.some 57) (.faddr 1 (.t 56)) .none 57 (.some []) .true [] .false, .mk (.some 58) (.load 1 .false (.t 57)) .none 58 (.some []) .true [] .false,
  .mk (.some 59) (.bld [(0, 1), (1, 1)] [.int .i64 0, .int .i64 0] [(0, .t 52), (1, .t 58)]) .none 59 (.some []) .true [] .false, .mk (.some 60) (.bsl 71 2 1 [.int .i64 0, .int .i64
  0] [(0, .t 59)]) .none 60 (.some []) .true [] .false, .mk (.some 61) (.app 71 2 16 (.t 46) (.t 60)) .none 61 (.some [60]) .true [] .false, .mk (.some 62) (.faddr 5 (.t 3)) .none
  62 (.some [61, 60]) .true [] .false, .mk .none (.store 1 (.t 62) (.t 61)) .none 63 (.some [60, 61]) .true [] .false])) (.reg 64 3 [.mk (.some 43) (.mv (.t 5)) .none 64 .none
  .false [] .false, .mk (.some 44) (.bin .add (.t 43) (.k (.int .i64 1))) .none 65 .none .false [] .false, .mk (.some 5) (.mv (.t 44)) .none 66 .none .false [] .false])))))) (.seq
  (.seq (.reg 67 1 [.mk (.some 6) (.mv (.k (.int .i64 0))) .none 67 .none .false [] .false]) (.block 4 (.loop (.seq (.seq (.reg 68 5 [.mk (.some 63) (.mv (.t 6)) .none 68 .none
  .false [] .false, .mk (.some 64) (.faddr 6 (.t 1)) .none 69 .none .false [] .false, .mk (.some 65) (.load 1 .false (.t 64)) .none 70 .none .false [] .false, .mk (.some 66) (.len
  (.t 65)) .none 71 .none .false [] .false, .mk (.some 67) (.bin .lss (.t 63) (.t 66)) .none 72 .none .false [] .false]) (.cond (.t 67) .skip (.exit 4))) (.seq (.block 5 (.draw 73
  19 [] [] [.mk (.some 70) (.faddr 6 (.t 3)) .none 73 (.some []) .true [] .false, .mk (.some 71) (.load 1 .false (.t 70)) .none 74 (.some []) .true [] .false, .mk (.some 72) (.faddr
  6 (.t 1)) .none 75 (.some []) .true [] .false, .mk (.some 73) (.load 1 .false (.t 72)) .none 76 (.some []) .true [] .false, .mk (.some 74) (.mv (.t 6)) .none 77 (.some []) .true
  [] .false, .mk (.some 75) (.iaddr 2 (.t 73) (.t 74)) .none 78 (.some []) .true [] .false, .mk (.some 76) (.faddr 0 (.t 75)) .none 79 (.some []) .true [] .false, .mk (.some 77)
  (.load 1 .false (.t 76)) .none 80 (.some []) .true [] .false, .mk (.some 78) (.faddr 6 (.t 1)) .none 81 (.some []) .true [] .false, .mk (.some 79) (.load 1 .false (.t 78)) .none
  82 (.some []) .true [] .false, .mk (.some 80) (.mv (.t 6)) .none 83 (.some []) .true [] .false, .mk (.some 81) (.iaddr 2 (.t 79) (.t 80)) .none 84 (.some []) .true [] .false, .mk
  (.some 82) (.faddr 1 (.t 81)) .none 85 (.some []) .true [] .false, .mk (.some 83) (.load 1 .false (.t 82)) .none 86 (.some []) .true [] .false, .mk (.some 84) (.bld [(0, 1), (1,
  1)] [.int .i64 0, .int .i64 0] [(0, .t 77), (1, .t 83)]) .none 87 (.some []) .true [] .false, .mk (.some 85) (.bsl 73 2 1 [.int .i64 0, .int .i64 0] [(0, .t 84)]) .none 88 (.some
  []) .true [] .false, .mk (.some 86) (.app 73 2 16 (.t 71) (.t 85)) .none 89 (.some [88]) .true [] .false, .mk (.some 87) (.faddr 6 (.t 3)) .none 90 (.some [89, 88]) .true []
  .false, .mk .none (.store 1 (.t 87) (.t 86)) .none 91 (.some [88, 89]) .true [] .false])) (.reg 92 3 [.mk (.some 68) (.mv (.t 6)) .none 92 .none .false [] .false, .mk (.some 69)
  (.bin .add (.t 68) (.k (.int .i64 1))) .none 93 .none .false [] .false, .mk (.some 6) (.mv (.t 69)) .none 94 .none .false [] .false])))))) (.seq (.reg 95 2 [.mk (.some 88) (.load
  11 .true (.t 3)) .none 95 .none .false [] .false, .mk .none (.store 11 (.t 2) (.t 88)) .none 96 .none .false [] .false]) .ret)))))
def rs12 : List IRes := [.cell 2 11 .true]
set_option maxRecDepth 100000 in
theorem comp12 : Comp Try.prog 12 ir12 rs12 89 := ⟨⟨_, _, 97, Try.func12, rfl, by kernel_rfl, by kernel_rfl, rfl⟩⟩
theorem body12 : HasBody Try.prog 12 := hasBody_of (by kernel_rfl)

end Go.Proofs.Ytgpfejgohclheaa

namespace Go.Proofs.Ytgpfejgohclheaa
open Go.Pal
def ir76 : IC :=
  .seq (.reg 0 1 [.mk (.some 6) (.mv (.k (.bool .false))) .none 0 .none .false [] .false]) (.seq (.reg 1 9 [.mk (.some 7) (.mv (.t 1)) .none 1 .none .false [] .false, .mk (.some 8)
  (.mv (.t 0)) .none 2 .none .false [] .false, .mk (.some 9) (.bin .leq (.t 7) (.t 8)) .none 3 .none .false [] .false, .mk (.some 10) (.mv (.t 9)) .none 4 .none .false [] .false,
  .mk (.some 11) (.mv (.t 0)) (.some (10, .true)) 5 .none .false [] .false, .mk (.some 12) (.mv (.t 2)) (.some (10, .true)) 6 .none .false [] .false, .mk (.some 13) (.bin .leq (.t
  11) (.t 12)) (.some (10, .true)) 7 .none .false [] .false, .mk (.some 14) (.pick (.t 10) (.t 13) (.k (.bool .false))) .none 8 .none .false [] .false, .mk (.some 6) (.mv (.t 14))
  .none 9 .none .false [] .false]) .ret)
def rs76 : List IRes := [.tmp 6]
set_option maxRecDepth 100000 in
theorem comp76 : Comp Try.prog 76 ir76 rs76 15 := ⟨⟨_, _, 10, Try.func76, rfl, by kernel_rfl, by kernel_rfl, rfl⟩⟩
theorem body76 : HasBody Try.prog 76 := hasBody_of (by kernel_rfl)

def ir103 : IC :=
  .seq (.reg 0 2 [.mk (.some 2) (.box 36 (.t 0)) .none 0 .none .false [] .false, .mk (.some 4) (.mv (.k (.bool .false))) .none 1 .none .false [] .false]) (.seq (.reg 2 6 [.mk (.some
  5) (.mv (.t 1)) .none 2 .none .false [] .false, .mk (.some 6) (.faddr 0 (.t 2)) .none 3 .none .false [] .false, .mk (.some 7) (.load 1 .false (.t 6)) .none 4 .none .false []
  .false, .mk (.some 8) (.bin .sub (.t 7) (.k (.int .i64 1))) .none 5 .none .false [] .false, .mk (.some 9) (.call 76 [.t 5, .k (.int .i64 0), .t 8]) .none 6 .none .false [] .false,
  .mk (.some 4) (.mv (.t 9)) .none 7 .none .false [] .false]) .ret)
def rs103 : List IRes := [.tmp 4]
set_option maxRecDepth 100000 in
theorem comp103 : Comp Try.prog 103 ir103 rs103 10 := ⟨⟨_, _, 8, Try.func103, rfl, by kernel_rfl, by kernel_rfl, rfl⟩⟩
theorem body103 : HasBody Try.prog 103 := hasBody_of (by kernel_rfl)

def ir62 : IC :=
  .seq (.reg 0 1 [.mk (.some 2) (.mv (.k (.bool .false))) .none 0 .none .false [] .false]) (.seq (.seq (.reg 1 3 [.mk (.some 4) (.mv (.t 0)) .none 1 .none .false [] .false, .mk (.some
  5) (.len (.t 4)) .none 2 .none .false [] .false, .mk (.some 6) (.mv (.k (.int .i64 0))) .none 3 .none .false [] .false]) (.block 0 (.loop (.seq (.reg 4 1 [.mk (.some 7) (.bin .lss
  (.t 6) (.t 5)) .none 4 .none .false [] .false]) (.seq (.cond (.t 7) .skip (.exit 0)) (.seq (.block 1 (.seq (.reg 5 2 [.mk (.some 8) (.mv (.t 6)) .none 5 .none .false [] .false,
  .mk (.some 3) (.mv (.t 8)) .none 6 .none .false [] .false]) (.seq (.draw 7 14 [] [] [.mk (.some 9) (.mv (.t 3)) .none 7 (.some []) .true [] .false, .mk (.some 10) (.bin .gtr (.t
  9) (.k (.int .i64 0))) .none 8 (.some []) .true [] .false, .mk (.some 11) (.mv (.t 10)) .none 9 (.some []) .true [] .false, .mk (.some 12) (.mv (.t 0)) (.some (11, .true)) 10
  (.some []) .true [] .false, .mk (.some 13) (.mv (.t 3)) (.some (11, .true)) 11 (.some []) .true [] .false, .mk (.some 14) (.iaddr 1 (.t 12) (.t 13)) (.some (11, .true)) 12 (.some
  []) .true [] .false, .mk (.some 15) (.load 1 .false (.t 14)) (.some (11, .true)) 13 (.some []) .true [] .false, .mk (.some 16) (.mv (.t 0)) (.some (11, .true)) 14 (.some []) .true
  [] .false, .mk (.some 17) (.mv (.t 3)) (.some (11, .true)) 15 (.some []) .true [] .false, .mk (.some 18) (.bin .sub (.t 17) (.k (.int .i64 1))) (.some (11, .true)) 16 (.some [])
  .true [] .false, .mk (.some 19) (.iaddr 1 (.t 16) (.t 18)) (.some (11, .true)) 17 (.some []) .true [] .false, .mk (.some 20) (.load 1 .false (.t 19)) (.some (11, .true)) 18 (.some
  []) .true [] .false, .mk (.some 21) (.bin .leq (.t 15) (.t 20)) (.some (11, .true)) 19 (.some []) .true [] .false, .mk (.some 22) (.pick (.t 11) (.t 21) (.k (.bool .false))) .none
  20 (.some []) .true [] .false]) (.cond (.t 22) (.seq (.reg 21 1 [.mk (.some 2) (.mv (.k (.bool .false))) .none 21 .none .false [] .false]) .ret) .skip)))) (.reg 22 2 [.mk (.some
  23) (.bin .add (.t 6) (.k (.int .i64 1))) .none 22 .none .false [] .false, .mk (.some 6) (.mv (.t 23)) .none 23 .none .false [] .false]))))))) (.seq (.reg 24 1 [.mk (.some 2) (.mv
  (.k (.bool .true))) .none 24 .none .false [] .false]) .ret))
def rs62 : List IRes := [.tmp 2]
set_option maxRecDepth 100000 in
theorem comp62 : Comp Try.prog 62 ir62 rs62 24 := ⟨⟨_, _, 25, Try.func62, rfl, by kernel_rfl, by kernel_rfl, rfl⟩⟩
theorem body62 : HasBody Try.prog 62 := hasBody_of (by kernel_rfl)

def ir65 : IC :=
  .seq (.reg 0 1 [.mk (.some 4) (.mv (.k (.bool .false))) .none 0 .none .false [] .false]) (.seq (.reg 1 5 [.mk (.some 5) (.mv (.t 0)) .none 1 .none .false [] .false, .mk (.some 6)
  (.mv (.t 1)) .none 2 .none .false [] .false, .mk (.some 7) (.call 85 [.t 5, .t 6]) .none 3 .none .false [] .false, .mk (.some 8) (.bin .geq (.t 7) (.k (.int .i64 0))) .none 4
  .none .false [] .false, .mk (.some 4) (.mv (.t 8)) .none 5 .none .false [] .false]) .ret)
def rs65 : List IRes := [.tmp 4]
set_option maxRecDepth 100000 in
theorem comp65 : Comp Try.prog 65 ir65 rs65 9 := ⟨⟨_, _, 6, Try.func65, rfl, by kernel_rfl, by kernel_rfl, rfl⟩⟩
theorem body65 : HasBody Try.prog 65 := hasBody_of (by kernel_rfl)

def ir49 : IC :=
  .seq (.reg 0 1 [.mk (.some 4) (.mv (.k (.bool .false))) .none 0 .none .false [] .false]) (.seq (.reg 1 5 [.mk (.some 5) (.mv (.t 0)) .none 1 .none .false [] .false, .mk (.some 6)
  (.mv (.t 1)) .none 2 .none .false [] .false, .mk (.some 7) (.call 73 [.t 5, .t 6]) .none 3 .none .false [] .false, .mk (.some 8) (.bin .geq (.t 7) (.k (.int .i64 0))) .none 4
  .none .false [] .false, .mk (.some 4) (.mv (.t 8)) .none 5 .none .false [] .false]) .ret)
def rs49 : List IRes := [.tmp 4]
set_option maxRecDepth 100000 in
theorem comp49 : Comp Try.prog 49 ir49 rs49 9 := ⟨⟨_, _, 6, Try.func49, rfl, by kernel_rfl, by kernel_rfl, rfl⟩⟩
theorem body49 : HasBody Try.prog 49 := hasBody_of (by kernel_rfl)

def ir85 : IC :=
  .seq (.reg 0 1 [.mk (.some 4) (.mv (.k (.int .i64 0))) .none 0 .none .false [] .false]) (.seq (.seq (.reg 1 3 [.mk (.some 6) (.mv (.t 0)) .none 1 .none .false [] .false, .mk (.some
  7) (.len (.t 6)) .none 2 .none .false [] .false, .mk (.some 8) (.mv (.k (.int .i64 0))) .none 3 .none .false [] .false]) (.block 0 (.loop (.seq (.reg 4 1 [.mk (.some 9) (.bin .lss
  (.t 8) (.t 7)) .none 4 .none .false [] .false]) (.seq (.cond (.t 9) .skip (.exit 0)) (.seq (.block 1 (.seq (.reg 5 2 [.mk (.some 10) (.mv (.t 8)) .none 5 .none .false [] .false,
  .mk (.some 5) (.mv (.t 10)) .none 6 .none .false [] .false]) (.seq (.reg 7 6 [.mk (.some 11) (.mv (.t 1)) .none 7 .none .false [] .false, .mk (.some 12) (.mv (.t 0)) .none 8 .none
  .false [] .false, .mk (.some 13) (.mv (.t 5)) .none 9 .none .false [] .false, .mk (.some 14) (.iaddr 1 (.t 12) (.t 13)) .none 10 .none .false [] .false, .mk (.some 15) (.load 1
  .false (.t 14)) .none 11 .none .false [] .false, .mk (.some 16) (.bin .eql (.t 11) (.t 15)) .none 12 .none .false [] .false]) (.cond (.t 16) (.seq (.reg 13 2 [.mk (.some 17) (.mv
  (.t 5)) .none 13 .none .false [] .false, .mk (.some 4) (.mv (.t 17)) .none 14 .none .false [] .false]) .ret) .skip)))) (.reg 15 2 [.mk (.some 18) (.bin .add (.t 8) (.k (.int .i64
  1))) .none 15 .none .false [] .false, .mk (.some 8) (.mv (.t 18)) .none 16 .none .false [] .false]))))))) (.seq (.reg 17 1 [.mk (.some 4) (.mv (.k (.int .i64 (-1)))) .none 17
  .none .false [] .false]) .ret))
def rs85 : List IRes := [.tmp 4]
set_option maxRecDepth 100000 in
theorem comp85 : Comp Try.prog 85 ir85 rs85 19 := ⟨⟨_, _, 18, Try.func85, rfl, by kernel_rfl, by kernel_rfl, rfl⟩⟩
theorem body85 : HasBody Try.prog 85 := hasBody_of (by kernel_rfl)

def ir73 : IC :=
  .seq (.reg 0 1 [.mk (.some 4) (.mv (.k (.int .i64 0))) .none 0 .none .false [] .false]) (.seq (.seq (.reg 1 3 [.mk (.some 6) (.mv (.t 0)) .none 1 .none .false [] .false, .mk (.some
  7) (.len (.t 6)) .none 2 .none .false [] .false, .mk (.some 8) (.mv (.k (.int .i64 0))) .none 3 .none .false [] .false]) (.block 0 (.loop (.seq (.reg 4 1 [.mk (.some 9) (.bin .lss
  (.t 8) (.t 7)) .none 4 .none .false [] .false]) (.seq (.cond (.t 9) .skip (.exit 0)) (.seq (.block 1 (.seq (.reg 5 2 [.mk (.some 10) (.mv (.t 8)) .none 5 .none .false [] .false,
  .mk (.some 5) (.mv (.t 10)) .none 6 .none .false [] .false]) (.seq (.reg 7 6 [.mk (.some 11) (.mv (.t 1)) .none 7 .none .false [] .false, .mk (.some 12) (.mv (.t 0)) .none 8 .none
  .false [] .false, .mk (.some 13) (.mv (.t 5)) .none 9 .none .false [] .false, .mk (.some 14) (.iaddr 1 (.t 12) (.t 13)) .none 10 .none .false [] .false, .mk (.some 15) (.load 1
  .false (.t 14)) .none 11 .none .false [] .false, .mk (.some 16) (.bin .eql (.t 11) (.t 15)) .none 12 .none .false [] .false]) (.cond (.t 16) (.seq (.reg 13 2 [.mk (.some 17) (.mv
  (.t 5)) .none 13 .none .false [] .false, .mk (.some 4) (.mv (.t 17)) .none 14 .none .false [] .false]) .ret) .skip)))) (.reg 15 2 [.mk (.some 18) (.bin .add (.t 8) (.k (.int .i64
  1))) .none 15 .none .false [] .false, .mk (.some 8) (.mv (.t 18)) .none 16 .none .false [] .false]))))))) (.seq (.reg 17 1 [.mk (.some 4) (.mv (.k (.int .i64 (-1)))) .none 17
  .none .false [] .false]) .ret))
def rs73 : List IRes := [.tmp 4]
set_option maxRecDepth 100000 in
theorem comp73 : Comp Try.prog 73 ir73 rs73 19 := ⟨⟨_, _, 18, Try.func73, rfl, by kernel_rfl, by kernel_rfl, rfl⟩⟩
theorem body73 : HasBody Try.prog 73 := hasBody_of (by kernel_rfl)

def ir63 : IC :=
  .seq (.reg 1 2 [.mk (.some 3) (.box 112 (.t 1)) .none 1 .none .false [] .false, .mk (.some 4) (.mv (.k (.bool .false))) .none 2 .none .false [] .false]) (.seq (.reg 3 5 [.mk (.some
  5) (.mv (.t 0)) .none 3 .none .false [] .false, .mk (.some 6) (.mkf 84 [] [.t 3]) .none 4 .none .false [] .false, .mk (.some 7) (.call 83 [.t 5, .t 6]) .none 5 .none .false []
  .false, .mk (.some 8) (.un .not (.t 7)) .none 6 .none .false [] .false, .mk (.some 4) (.mv (.t 8)) .none 7 .none .false [] .false]) .ret)
def rs63 : List IRes := [.tmp 4]
set_option maxRecDepth 100000 in
theorem comp63 : CompAt Try.prog 63 1 ir63 rs63 9 := ⟨⟨_, _, 8, Try.func63, rfl, by kernel_rfl, by kernel_rfl, rfl⟩⟩
theorem body63 : HasBody Try.prog 63 := hasBody_of (by kernel_rfl)

def ir77 : IC :=
  .seq (.reg 0 2 [.mk (.some 3) (.box 110 (.t 1)) .none 0 .none .false [] .false, .mk (.some 4) (.mv (.k (.bool .false))) .none 1 .none .false [] .false]) (.seq (.reg 2 5 [.mk (.some
  5) (.mv (.t 0)) .none 2 .none .false [] .false, .mk (.some 6) (.mkf 102 [] [.t 3]) .none 3 .none .false [] .false, .mk (.some 7) (.call 101 [.t 5, .t 6]) .none 4 .none .false []
  .false, .mk (.some 8) (.un .not (.t 7)) .none 5 .none .false [] .false, .mk (.some 4) (.mv (.t 8)) .none 6 .none .false [] .false]) .ret)
def rs77 : List IRes := [.tmp 4]
set_option maxRecDepth 100000 in
theorem comp77 : Comp Try.prog 77 ir77 rs77 9 := ⟨⟨_, _, 7, Try.func77, rfl, by kernel_rfl, by kernel_rfl, rfl⟩⟩
theorem body77 : HasBody Try.prog 77 := hasBody_of (by kernel_rfl)

def ir104 : IC :=
  .seq (.reg 2 2 [.mk (.some 3) (.box 149 (.t 1)) .none 2 .none .false [] .false, .mk (.some 4) (.mv (.k (.bool .false))) .none 3 .none .false [] .false]) (.seq (.reg 4 5 [.mk (.some
  5) (.mv (.t 0)) .none 4 .none .false [] .false, .mk (.some 6) (.mkf 117 [] [.t 3]) .none 5 .none .false [] .false, .mk (.some 7) (.call 116 [.t 5, .t 6]) .none 6 .none .false []
  .false, .mk (.some 8) (.un .not (.t 7)) .none 7 .none .false [] .false, .mk (.some 4) (.mv (.t 8)) .none 8 .none .false [] .false]) .ret)
def rs104 : List IRes := [.tmp 4]
set_option maxRecDepth 100000 in
theorem comp104 : CompAt Try.prog 104 2 ir104 rs104 9 := ⟨⟨_, _, 9, Try.func104, rfl, by kernel_rfl, by kernel_rfl, rfl⟩⟩
theorem body104 : HasBody Try.prog 104 := hasBody_of (by kernel_rfl)

def ir78 : IC :=
  .seq (.reg 0 2 [.mk (.some 2) (.box 36 (.t 0)) .none 0 .none .false [] .false, .mk (.some 4) (.mv (.k (.bool .false))) .none 1 .none .false [] .false]) (.seq (.reg 2 9 [.mk (.some
  5) (.mv (.t 1)) .none 2 .none .false [] .false, .mk (.some 6) (.load 11 .true (.t 2)) .none 3 .none .false [] .false, .mk (.some 7) (.mkf 103 [.t 6] []) .none 4 .none .false []
  .false, .mk (.some 8) (.call 63 [.t 5, .t 7]) .none 5 .none .false [] .false, .mk (.some 9) (.mv (.t 8)) .none 6 .none .false [] .false, .mk (.some 10) (.mv (.t 1)) (.some (9,
  .true)) 7 .none .false [] .false, .mk (.some 11) (.call 62 [.t 10]) (.some (9, .true)) 8 .none .false [] .false, .mk (.some 12) (.pick (.t 9) (.t 11) (.k (.bool .false))) .none 9
  .none .false [] .false, .mk (.some 4) (.mv (.t 12)) .none 10 .none .false [] .false]) .ret)
def rs78 : List IRes := [.tmp 4]
set_option maxRecDepth 100000 in
theorem comp78 : Comp Try.prog 78 ir78 rs78 13 := ⟨⟨_, _, 11, Try.func78, rfl, by kernel_rfl, by kernel_rfl, rfl⟩⟩
theorem body78 : HasBody Try.prog 78 := hasBody_of (by kernel_rfl)

def ir83 : IC :=
  .seq (.reg 2 1 [.mk (.some 4) (.mv (.k (.bool .false))) .none 2 .none .false [] .false]) (.seq (.reg 3 5 [.mk (.some 5) (.mv (.t 0)) .none 3 .none .false [] .false, .mk (.some 6)
  (.mv (.t 1)) .none 4 .none .false [] .false, .mk (.some 7) (.call 108 [.t 5, .t 6]) .none 5 .none .false [] .false, .mk (.some 8) (.bin .geq (.t 7) (.k (.int .i64 0))) .none 6
  .none .false [] .false, .mk (.some 4) (.mv (.t 8)) .none 7 .none .false [] .false]) .ret)
def rs83 : List IRes := [.tmp 4]
set_option maxRecDepth 100000 in
theorem comp83 : CompAt Try.prog 83 2 ir83 rs83 9 := ⟨⟨_, _, 8, Try.func83, rfl, by kernel_rfl, by kernel_rfl, rfl⟩⟩
theorem body83 : HasBody Try.prog 83 := hasBody_of (by kernel_rfl)

def ir101 : IC :=
  .seq (.reg 1 1 [.mk (.some 4) (.mv (.k (.bool .false))) .none 1 .none .false [] .false]) (.seq (.reg 2 5 [.mk (.some 5) (.mv (.t 0)) .none 2 .none .false [] .false, .mk (.some 6)
  (.mv (.t 1)) .none 3 .none .false [] .false, .mk (.some 7) (.call 115 [.t 5, .t 6]) .none 4 .none .false [] .false, .mk (.some 8) (.bin .geq (.t 7) (.k (.int .i64 0))) .none 5
  .none .false [] .false, .mk (.some 4) (.mv (.t 8)) .none 6 .none .false [] .false]) .ret)
def rs101 : List IRes := [.tmp 4]
set_option maxRecDepth 100000 in
theorem comp101 : CompAt Try.prog 101 1 ir101 rs101 9 := ⟨⟨_, _, 7, Try.func101, rfl, by kernel_rfl, by kernel_rfl, rfl⟩⟩
theorem body101 : HasBody Try.prog 101 := hasBody_of (by kernel_rfl)

def ir116 : IC :=
  .seq (.reg 3 1 [.mk (.some 4) (.mv (.k (.bool .false))) .none 3 .none .false [] .false]) (.seq (.reg 4 5 [.mk (.some 5) (.mv (.t 0)) .none 4 .none .false [] .false, .mk (.some 6)
  (.mv (.t 1)) .none 5 .none .false [] .false, .mk (.some 7) (.call 119 [.t 5, .t 6]) .none 6 .none .false [] .false, .mk (.some 8) (.bin .geq (.t 7) (.k (.int .i64 0))) .none 7
  .none .false [] .false, .mk (.some 4) (.mv (.t 8)) .none 8 .none .false [] .false]) .ret)
def rs116 : List IRes := [.tmp 4]
set_option maxRecDepth 100000 in
theorem comp116 : CompAt Try.prog 116 3 ir116 rs116 9 := ⟨⟨_, _, 9, Try.func116, rfl, by kernel_rfl, by kernel_rfl, rfl⟩⟩
theorem body116 : HasBody Try.prog 116 := hasBody_of (by kernel_rfl)

def ir108 : IC :=
  .seq (.reg 2 1 [.mk (.some 4) (.mv (.k (.int .i64 0))) .none 2 .none .false [] .false]) (.seq (.seq (.reg 3 3 [.mk (.some 6) (.mv (.t 0)) .none 3 .none .false [] .false, .mk (.some
  7) (.len (.t 6)) .none 4 .none .false [] .false, .mk (.some 8) (.mv (.k (.int .i64 0))) .none 5 .none .false [] .false]) (.block 0 (.loop (.seq (.reg 6 1 [.mk (.some 9) (.bin .lss
  (.t 8) (.t 7)) .none 6 .none .false [] .false]) (.seq (.cond (.t 9) .skip (.exit 0)) (.seq (.block 1 (.seq (.reg 7 2 [.mk (.some 10) (.mv (.t 8)) .none 7 .none .false [] .false,
  .mk (.some 5) (.mv (.t 10)) .none 8 .none .false [] .false]) (.seq (.reg 9 6 [.mk (.some 11) (.mv (.t 1)) .none 9 .none .false [] .false, .mk (.some 12) (.mv (.t 0)) .none 10
  .none .false [] .false, .mk (.some 13) (.mv (.t 5)) .none 11 .none .false [] .false, .mk (.some 14) (.iaddr 1 (.t 12) (.t 13)) .none 12 .none .false [] .false, .mk (.some 15)
  (.load 1 .false (.t 14)) .none 13 .none .false [] .false, .mk (.some 16) (.callv (.t 11) [.t 15]) .none 14 .none .false [] .false]) (.cond (.t 16) (.seq (.reg 15 2 [.mk (.some 17)
  (.mv (.t 5)) .none 15 .none .false [] .false, .mk (.some 4) (.mv (.t 17)) .none 16 .none .false [] .false]) .ret) .skip)))) (.reg 17 2 [.mk (.some 18) (.bin .add (.t 8) (.k (.int
  .i64 1))) .none 17 .none .false [] .false, .mk (.some 8) (.mv (.t 18)) .none 18 .none .false [] .false]))))))) (.seq (.reg 19 1 [.mk (.some 4) (.mv (.k (.int .i64 (-1)))) .none 19
  .none .false [] .false]) .ret))
def rs108 : List IRes := [.tmp 4]
set_option maxRecDepth 100000 in
theorem comp108 : CompAt Try.prog 108 2 ir108 rs108 19 := ⟨⟨_, _, 20, Try.func108, rfl, by kernel_rfl, by kernel_rfl, rfl⟩⟩
theorem body108 : HasBody Try.prog 108 := hasBody_of (by kernel_rfl)

def ir115 : IC :=
  .seq (.reg 1 1 [.mk (.some 4) (.mv (.k (.int .i64 0))) .none 1 .none .false [] .false]) (.seq (.seq (.reg 2 3 [.mk (.some 6) (.mv (.t 0)) .none 2 .none .false [] .false, .mk (.some
  7) (.len (.t 6)) .none 3 .none .false [] .false, .mk (.some 8) (.mv (.k (.int .i64 0))) .none 4 .none .false [] .false]) (.block 0 (.loop (.seq (.reg 5 1 [.mk (.some 9) (.bin .lss
  (.t 8) (.t 7)) .none 5 .none .false [] .false]) (.seq (.cond (.t 9) .skip (.exit 0)) (.seq (.block 1 (.seq (.reg 6 2 [.mk (.some 10) (.mv (.t 8)) .none 6 .none .false [] .false,
  .mk (.some 5) (.mv (.t 10)) .none 7 .none .false [] .false]) (.seq (.reg 8 6 [.mk (.some 11) (.mv (.t 1)) .none 8 .none .false [] .false, .mk (.some 12) (.mv (.t 0)) .none 9 .none
  .false [] .false, .mk (.some 13) (.mv (.t 5)) .none 10 .none .false [] .false, .mk (.some 14) (.iaddr 1 (.t 12) (.t 13)) .none 11 .none .false [] .false, .mk (.some 15) (.load 1
  .false (.t 14)) .none 12 .none .false [] .false, .mk (.some 16) (.callv (.t 11) [.t 15]) .none 13 .none .false [] .false]) (.cond (.t 16) (.seq (.reg 14 2 [.mk (.some 17) (.mv (.t
  5)) .none 14 .none .false [] .false, .mk (.some 4) (.mv (.t 17)) .none 15 .none .false [] .false]) .ret) .skip)))) (.reg 16 2 [.mk (.some 18) (.bin .add (.t 8) (.k (.int .i64 1)))
  .none 16 .none .false [] .false, .mk (.some 8) (.mv (.t 18)) .none 17 .none .false [] .false]))))))) (.seq (.reg 18 1 [.mk (.some 4) (.mv (.k (.int .i64 (-1)))) .none 18 .none
  .false [] .false]) .ret))
def rs115 : List IRes := [.tmp 4]
set_option maxRecDepth 100000 in
theorem comp115 : CompAt Try.prog 115 1 ir115 rs115 19 := ⟨⟨_, _, 19, Try.func115, rfl, by kernel_rfl, by kernel_rfl, rfl⟩⟩
theorem body115 : HasBody Try.prog 115 := hasBody_of (by kernel_rfl)

def ir119 : IC :=
  .seq (.reg 3 1 [.mk (.some 4) (.mv (.k (.int .i64 0))) .none 3 .none .false [] .false]) (.seq (.seq (.reg 4 3 [.mk (.some 6) (.mv (.t 0)) .none 4 .none .false [] .false, .mk (.some
  7) (.len (.t 6)) .none 5 .none .false [] .false, .mk (.some 8) (.mv (.k (.int .i64 0))) .none 6 .none .false [] .false]) (.block 0 (.loop (.seq (.reg 7 1 [.mk (.some 9) (.bin .lss
  (.t 8) (.t 7)) .none 7 .none .false [] .false]) (.seq (.cond (.t 9) .skip (.exit 0)) (.seq (.block 1 (.seq (.reg 8 2 [.mk (.some 10) (.mv (.t 8)) .none 8 .none .false [] .false,
  .mk (.some 5) (.mv (.t 10)) .none 9 .none .false [] .false]) (.seq (.reg 10 6 [.mk (.some 11) (.mv (.t 1)) .none 10 .none .false [] .false, .mk (.some 12) (.mv (.t 0)) .none 11
  .none .false [] .false, .mk (.some 13) (.mv (.t 5)) .none 12 .none .false [] .false, .mk (.some 14) (.iaddr 2 (.t 12) (.t 13)) .none 13 .none .false [] .false, .mk (.some 15)
  (.load 2 .true (.t 14)) .none 14 .none .false [] .false, .mk (.some 16) (.callv (.t 11) [.t 15]) .none 15 .none .false [] .false]) (.cond (.t 16) (.seq (.reg 16 2 [.mk (.some 17)
  (.mv (.t 5)) .none 16 .none .false [] .false, .mk (.some 4) (.mv (.t 17)) .none 17 .none .false [] .false]) .ret) .skip)))) (.reg 18 2 [.mk (.some 18) (.bin .add (.t 8) (.k (.int
  .i64 1))) .none 18 .none .false [] .false, .mk (.some 8) (.mv (.t 18)) .none 19 .none .false [] .false]))))))) (.seq (.reg 20 1 [.mk (.some 4) (.mv (.k (.int .i64 (-1)))) .none 20
  .none .false [] .false]) .ret))
def rs119 : List IRes := [.tmp 4]
set_option maxRecDepth 100000 in
theorem comp119 : CompAt Try.prog 119 3 ir119 rs119 19 := ⟨⟨_, _, 21, Try.func119, rfl, by kernel_rfl, by kernel_rfl, rfl⟩⟩
theorem body119 : HasBody Try.prog 119 := hasBody_of (by kernel_rfl)

def ir84 : IC :=
  .seq (.reg 2 1 [.mk (.some 3) (.mv (.k (.bool .false))) .none 2 .none .false [] .false]) (.seq (.reg 3 5 [.mk (.some 4) (.load 1 .false (.t 1)) .none 3 .none .false [] .false, .mk
  (.some 5) (.mv (.t 0)) .none 4 .none .false [] .false, .mk (.some 6) (.callv (.t 4) [.t 5]) .none 5 .none .false [] .false, .mk (.some 7) (.un .not (.t 6)) .none 6 .none .false []
  .false, .mk (.some 3) (.mv (.t 7)) .none 7 .none .false [] .false]) .ret)
def rs84 : List IRes := [.tmp 3]
set_option maxRecDepth 100000 in
theorem comp84 : CompAt Try.prog 84 2 ir84 rs84 8 := ⟨⟨_, _, 8, Try.func84, rfl, by kernel_rfl, by kernel_rfl, rfl⟩⟩
theorem body84 : HasBody Try.prog 84 := hasBody_of (by kernel_rfl)

def ir102 : IC :=
  .seq (.reg 1 1 [.mk (.some 3) (.mv (.k (.bool .false))) .none 1 .none .false [] .false]) (.seq (.reg 2 5 [.mk (.some 4) (.load 1 .false (.t 1)) .none 2 .none .false [] .false, .mk
  (.some 5) (.mv (.t 0)) .none 3 .none .false [] .false, .mk (.some 6) (.callv (.t 4) [.t 5]) .none 4 .none .false [] .false, .mk (.some 7) (.un .not (.t 6)) .none 5 .none .false []
  .false, .mk (.some 3) (.mv (.t 7)) .none 6 .none .false [] .false]) .ret)
def rs102 : List IRes := [.tmp 3]
set_option maxRecDepth 100000 in
theorem comp102 : CompAt Try.prog 102 1 ir102 rs102 8 := ⟨⟨_, _, 7, Try.func102, rfl, by kernel_rfl, by kernel_rfl, rfl⟩⟩
theorem body102 : HasBody Try.prog 102 := hasBody_of (by kernel_rfl)

def ir117 : IC :=
  .seq (.reg 3 2 [.mk (.some 2) (.box 73 (.t 0)) .none 3 .none .false [] .false, .mk (.some 3) (.mv (.k (.bool .false))) .none 4 .none .false [] .false]) (.seq (.reg 5 5 [.mk (.some
  4) (.load 1 .false (.t 1)) .none 5 .none .false [] .false, .mk (.some 5) (.load 2 .true (.t 2)) .none 6 .none .false [] .false, .mk (.some 6) (.callv (.t 4) [.t 5]) .none 7 .none
  .false [] .false, .mk (.some 7) (.un .not (.t 6)) .none 8 .none .false [] .false, .mk (.some 3) (.mv (.t 7)) .none 9 .none .false [] .false]) .ret)
def rs117 : List IRes := [.tmp 3]
set_option maxRecDepth 100000 in
theorem comp117 : CompAt Try.prog 117 3 ir117 rs117 8 := ⟨⟨_, _, 10, Try.func117, rfl, by kernel_rfl, by kernel_rfl, rfl⟩⟩
theorem body117 : HasBody Try.prog 117 := hasBody_of (by kernel_rfl)

def ir105 : IC :=
  .seq (.reg 2 2 [.mk (.some 2) (.box 73 (.t 0)) .none 2 .none .false [] .false, .mk (.some 3) (.mv (.k (.bool .false))) .none 3 .none .false [] .false]) (.seq (.reg 4 6 [.mk (.some
  4) (.load 1 .false (.t 1)) .none 4 .none .false [] .false, .mk (.some 5) (.faddr 0 (.t 2)) .none 5 .none .false [] .false, .mk (.some 6) (.load 1 .false (.t 5)) .none 6 .none
  .false [] .false, .mk (.some 7) (.lkp 3 (.bool .false) .false (.t 4) (.t 6)) .none 7 .none .false [] .false, .mk (.some 8) (.un .not (.t 7)) .none 8 .none .false [] .false, .mk
  (.some 3) (.mv (.t 8)) .none 9 .none .false [] .false]) .ret)
def rs105 : List IRes := [.tmp 3]
set_option maxRecDepth 100000 in
theorem comp105 : CompAt Try.prog 105 2 ir105 rs105 9 := ⟨⟨_, _, 10, Try.func105, rfl, by kernel_rfl, by kernel_rfl, rfl⟩⟩
theorem body105 : HasBody Try.prog 105 := hasBody_of (by kernel_rfl)

def ir106 : IC :=
  .seq (.reg 0 2 [.mk (.some 2) (.box 23 (.t 0)) .none 0 .none .false [] .false, .mk (.some 4) (.mv (.k (.int .i64 0))) .none 1 .none .false [] .false]) (.seq (.seq (.reg 2 2 [.mk
  (.some 7) (.load 2 .true (.t 2)) .none 2 .none .false [] .false, .mk (.some 8) (.mv (.k (.int .i64 0))) .none 3 .none .false [] .false]) (.block 0 (.loop (.seq (.reg 4 1 [.mk
  (.some 9) (.bin .lss (.t 8) (.k (.int .i64 2))) .none 4 .none .false [] .false]) (.seq (.cond (.t 9) .skip (.exit 0)) (.seq (.block 1 (.seq (.reg 5 2 [.mk (.some 10) (.pur (.idx
  23) [.t 7, .t 8]) .none 5 .none .false [] .false, .mk (.some 6) (.mv (.t 10)) .none 6 .none .false [] .false]) (.seq (.reg 7 3 [.mk (.some 11) (.mv (.t 6)) .none 7 .none .false []
  .false, .mk (.some 12) (.mv (.t 1)) .none 8 .none .false [] .false, .mk (.some 13) (.call 65 [.t 11, .t 12]) .none 9 .none .false [] .false]) (.cond (.t 13) (.reg 10 3 [.mk (.some
  14) (.mv (.t 4)) .none 10 .none .false [] .false, .mk (.some 15) (.bin .add (.t 14) (.k (.int .i64 1))) .none 11 .none .false [] .false, .mk (.some 4) (.mv (.t 15)) .none 12 .none
  .false [] .false]) .skip)))) (.reg 13 2 [.mk (.some 16) (.bin .add (.t 8) (.k (.int .i64 1))) .none 13 .none .false [] .false, .mk (.some 8) (.mv (.t 16)) .none 14 .none .false []
  .false]))))))) (.seq (.reg 15 2 [.mk (.some 17) (.mv (.t 4)) .none 15 .none .false [] .false, .mk (.some 4) (.mv (.t 17)) .none 16 .none .false [] .false]) .ret))
def rs106 : List IRes := [.tmp 4]
set_option maxRecDepth 100000 in
theorem comp106 : Comp Try.prog 106 ir106 rs106 18 := ⟨⟨_, _, 17, Try.func106, rfl, by kernel_rfl, by kernel_rfl, rfl⟩⟩
theorem body106 : HasBody Try.prog 106 := hasBody_of (by kernel_rfl)

def ir80 : IC :=
  .seq (.reg 0 2 [.mk (.some 2) (.box 36 (.t 0)) .none 0 .none .false [] .false, .mk (.some 4) (.mv (.k (.slice .none 0 0))) .none 1 .none .false [] .false]) (.seq (.draw 2 10 [1, 2]
  [] [.mk (.some 8) (.faddr 1 (.t 2)) .none 2 (.some []) .true [] .false, .mk (.some 9) (.load 2 .true (.t 8)) .none 3 (.some []) .true [] .false, .mk (.some 10) (.mv (.t 1)) .none
  4 (.some []) .true [] .false, .mk (.some 11) (.call 106 [.t 9, .t 10]) .none 5 (.some []) .true [] .false, .mk (.some 12) (.faddr 3 (.t 2)) .none 6 (.some []) .true [] .false, .mk
  (.some 13) (.load 2 .true (.t 12)) .none 7 (.some []) .true [] .false, .mk (.some 14) (.mv (.t 1)) .none 8 (.some []) .true [] .false, .mk (.some 15) (.call 106 [.t 13, .t 14])
  .none 9 (.some [5]) .false [] .false, .mk (.some 5) (.mv (.t 11)) .none 10 (.some [9, 5]) .true [] .false, .mk (.some 6) (.mv (.t 15)) .none 11 (.some [5, 9]) .true [] .false])
  (.seq (.reg 12 1 [.mk (.some 7) (.mv (.k (.slice .none 0 0))) .none 12 .none .false [] .false]) (.seq (.seq (.reg 13 6 [.mk (.some 16) (.mv (.t 5)) .none 13 .none .false []
  .false, .mk (.some 17) (.bin .lss (.t 16) (.k (.int .i64 2))) .none 14 .none .false [] .false, .mk (.some 18) (.mv (.t 17)) .none 15 .none .false [] .false, .mk (.some 19) (.mv
  (.t 6)) (.some (18, .true)) 16 .none .false [] .false, .mk (.some 20) (.bin .lss (.t 19) (.k (.int .i64 2))) (.some (18, .true)) 17 .none .false [] .false, .mk (.some 21) (.pick
  (.t 18) (.t 20) (.k (.bool .false))) .none 18 .none .false [] .false]) (.cond (.t 21) (.reg 19 4 [.mk (.some 22) (.mv (.t 7)) .none 19 .none .false [] .false, .mk (.some 23) (.bsl
  5 1 1 [.int .u8 0] [(0, .k (.int .u8 0))]) .none 20 .none .false [] .false, .mk (.some 24) (.app 5 1 1 (.t 22) (.t 23)) .none 21 .none .false [] .false, .mk (.some 7) (.mv (.t
  24)) .none 22 .none .false [] .false]) .skip)) (.seq (.seq (.reg 23 6 [.mk (.some 25) (.mv (.t 5)) .none 23 .none .false [] .false, .mk (.some 26) (.bin .gtr (.t 25) (.k (.int
  .i64 0))) .none 24 .none .false [] .false, .mk (.some 27) (.mv (.t 26)) .none 25 .none .false [] .false, .mk (.some 28) (.mv (.t 6)) (.some (27, .true)) 26 .none .false [] .false,
  .mk (.some 29) (.bin .lss (.t 28) (.k (.int .i64 2))) (.some (27, .true)) 27 .none .false [] .false, .mk (.some 30) (.pick (.t 27) (.t 29) (.k (.bool .false))) .none 28 .none
  .false [] .false]) (.cond (.t 30) (.reg 29 4 [.mk (.some 31) (.mv (.t 7)) .none 29 .none .false [] .false, .mk (.some 32) (.bsl 5 1 1 [.int .u8 0] [(0, .k (.int .u8 1))]) .none 30
  .none .false [] .false, .mk (.some 33) (.app 5 1 1 (.t 31) (.t 32)) .none 31 .none .false [] .false, .mk (.some 7) (.mv (.t 33)) .none 32 .none .false [] .false]) .skip)) (.seq
  (.seq (.reg 33 6 [.mk (.some 34) (.mv (.t 6)) .none 33 .none .false [] .false, .mk (.some 35) (.bin .gtr (.t 34) (.k (.int .i64 0))) .none 34 .none .false [] .false, .mk (.some
  36) (.mv (.t 35)) .none 35 .none .false [] .false, .mk (.some 37) (.mv (.t 5)) (.some (36, .true)) 36 .none .false [] .false, .mk (.some 38) (.bin .lss (.t 37) (.k (.int .i64 2)))
  (.some (36, .true)) 37 .none .false [] .false, .mk (.some 39) (.pick (.t 36) (.t 38) (.k (.bool .false))) .none 38 .none .false [] .false]) (.cond (.t 39) (.reg 39 4 [.mk (.some
  40) (.mv (.t 7)) .none 39 .none .false [] .false, .mk (.some 41) (.bsl 5 1 1 [.int .u8 0] [(0, .k (.int .u8 2))]) .none 40 .none .false [] .false, .mk (.some 42) (.app 5 1 1 (.t
  40) (.t 41)) .none 41 .none .false [] .false, .mk (.some 7) (.mv (.t 42)) .none 42 .none .false [] .false]) .skip)) (.seq (.reg 43 2 [.mk (.some 43) (.mv (.t 7)) .none 43 .none
  .false [] .false, .mk (.some 4) (.mv (.t 43)) .none 44 .none .false [] .false]) .ret))))))
def rs80 : List IRes := [.tmp 4]
set_option maxRecDepth 100000 in
theorem comp80 : Comp Try.prog 80 ir80 rs80 44 := ⟨⟨_, _, 45, Try.func80, rfl, by kernel_rfl, by kernel_rfl, rfl⟩⟩
theorem body80 : HasBody Try.prog 80 := hasBody_of (by kernel_rfl)

def ir57 : IC :=
  .seq (.reg 0 3 [.mk (.some 1) (.box 78 (.t 0)) .none 0 .none .false [] .false, .mk (.some 2) (.mv (.k (.int .i64 0))) .none 1 .none .false [] .false, .mk (.some 3) (.mv (.k (.bool
  .false))) .none 2 .none .false [] .false]) (.seq .skip (.seq (.seq (.reg 3 4 [.mk (.some 5) (.faddr 0 (.t 1)) .none 3 .none .false [] .false, .mk (.some 6) (.faddr 0 (.t 5)) .none
  4 .none .false [] .false, .mk (.some 7) (.load 1 .false (.t 6)) .none 5 .none .false [] .false, .mk (.some 8) (.mv (.k (.int .i64 0))) .none 6 .none .false [] .false]) (.block 0
  (.loop (.seq (.reg 7 1 [.mk (.some 9) (.bin .lss (.t 8) (.t 7)) .none 7 .none .false [] .false]) (.seq (.cond (.t 9) .skip (.exit 0)) (.seq (.block 1 (.seq (.reg 8 2 [.mk (.some
  10) (.mv (.t 8)) .none 8 .none .false [] .false, .mk (.some 4) (.mv (.t 10)) .none 9 .none .false [] .false]) (.seq (.reg 10 6 [.mk (.some 11) (.mv (.t 4)) .none 10 .none .false
  [] .false, .mk (.some 12) (.faddr 51 (.t 1)) .none 11 .none .false [] .false, .mk (.some 13) (.aaddr 1 40 (.t 12) (.t 11)) .none 12 .none .false [] .false, .mk (.some 14) (.load 1
  .false (.t 13)) .none 13 .none .false [] .false, .mk (.some 15) (.len (.t 14)) .none 14 .none .false [] .false, .mk (.some 16) (.bin .eql (.t 15) (.k (.int .i64 0))) .none 15
  .none .false [] .false]) (.cond (.t 16) (.seq (.reg 16 3 [.mk (.some 17) (.mv (.t 4)) .none 16 .none .false [] .false, .mk (.some 2) (.mv (.t 17)) .none 17 .none .false [] .false,
  .mk (.some 3) (.mv (.k (.bool .true))) .none 18 .none .false [] .false]) (.exit 0)) .skip)))) (.reg 19 2 [.mk (.some 18) (.bin .add (.t 8) (.k (.int .i64 1))) .none 19 .none
  .false [] .false, .mk (.some 8) (.mv (.t 18)) .none 20 .none .false [] .false]))))))) (.seq (.reg 21 4 [.mk (.some 19) (.mv (.t 2)) .none 21 .none .false [] .false, .mk (.some 20)
  (.mv (.t 3)) .none 22 .none .false [] .false, .mk (.some 2) (.mv (.t 19)) .none 23 .none .false [] .false, .mk (.some 3) (.mv (.t 20)) .none 24 .none .false [] .false]) .ret)))
def rs57 : List IRes := [.tmp 2, .tmp 3]
set_option maxRecDepth 100000 in
theorem comp57 : Comp Try.prog 57 ir57 rs57 21 := ⟨⟨_, _, 25, Try.func57, rfl, by kernel_rfl, by kernel_rfl, rfl⟩⟩
theorem body57 : HasBody Try.prog 57 := hasBody_of (by kernel_rfl)

def ir53 : IC :=
  .seq (.reg 0 1 [.mk (.some 2) (.mv (.k (.slice .none 0 0))) .none 0 .none .false [] .false]) (.seq (.seq (.reg 1 2 [.mk (.some 3) (.mv (.t 0)) .none 1 .none .false [] .false, .mk
  (.some 4) (.pur (.bin .eql 22) [.t 3, .k (.slice .none 0 0)]) .none 2 .none .false [] .false]) (.cond (.t 4) (.seq (.reg 3 1 [.mk (.some 2) (.mv (.k (.slice .none 0 0))) .none 3
  .none .false [] .false]) .ret) .skip)) (.seq (.reg 4 4 [.mk (.some 5) (.bsl 3 1 0 [] []) .none 4 .none .false [] .false, .mk (.some 6) (.mv (.t 0)) .none 5 .none .false [] .false,
  .mk (.some 7) (.app 3 1 8 (.t 5) (.t 6)) .none 6 .none .false [] .false, .mk (.some 2) (.mv (.t 7)) .none 7 .none .false [] .false]) .ret))
def rs53 : List IRes := [.tmp 2]
set_option maxRecDepth 100000 in
theorem comp53 : Comp Try.prog 53 ir53 rs53 8 := ⟨⟨_, _, 8, Try.func53, rfl, by kernel_rfl, by kernel_rfl, rfl⟩⟩
theorem body53 : HasBody Try.prog 53 := hasBody_of (by kernel_rfl)

def ir42 : IC :=
  .seq (.reg 0 1 [.mk (.some 2) (.mv (.k (.int .i64 0))) .none 0 .none .false [] .false]) (.seq (.reg 1 3 [.mk (.some 3) (.mv (.t 0)) .none 1 .none .false [] .false, .mk (.some 4)
  (.call 69 [.t 3]) .none 2 .none .false [] .false, .mk (.some 2) (.mv (.t 4)) .none 3 .none .false [] .false]) .ret)
def rs42 : List IRes := [.tmp 2]
set_option maxRecDepth 100000 in
theorem comp42 : Comp Try.prog 42 ir42 rs42 5 := ⟨⟨_, _, 4, Try.func42, rfl, by kernel_rfl, by kernel_rfl, rfl⟩⟩
theorem body42 : HasBody Try.prog 42 := hasBody_of (by kernel_rfl)

def ir43 : IC :=
  .seq (.reg 0 1 [.mk (.some 2) (.mv (.k (.int .i64 0))) .none 0 .none .false [] .false]) (.seq (.reg 1 3 [.mk (.some 3) (.mv (.t 0)) .none 1 .none .false [] .false, .mk (.some 4)
  (.call 70 [.t 3]) .none 2 .none .false [] .false, .mk (.some 2) (.mv (.t 4)) .none 3 .none .false [] .false]) .ret)
def rs43 : List IRes := [.tmp 2]
set_option maxRecDepth 100000 in
theorem comp43 : Comp Try.prog 43 ir43 rs43 5 := ⟨⟨_, _, 4, Try.func43, rfl, by kernel_rfl, by kernel_rfl, rfl⟩⟩
theorem body43 : HasBody Try.prog 43 := hasBody_of (by kernel_rfl)

def ir69 : IC :=
  .seq (.reg 0 1 [.mk (.some 2) (.mv (.k (.int .i64 0))) .none 0 .none .false [] .false]) (.seq (.seq (.reg 1 3 [.mk (.some 5) (.mv (.t 0)) .none 1 .none .false [] .false, .mk (.some
  6) (.len (.t 5)) .none 2 .none .false [] .false, .mk (.some 7) (.bin .lss (.t 6) (.k (.int .i64 1))) .none 3 .none .false [] .false]) (.cond (.t 7) (.reg 4 2 [.mk (.some 8) (.pur
  (.mki 9) [.k (.string (ByteArray.mk (Array.mk [115, 108, 105, 99, 101, 115, 46, 77, 105, 110, 58, 32, 101, 109, 112, 116, 121, 32,
  108, 105, 115, 116])))]) .none 4 .none .false [] .false, .mk .none (.lenS (.k (.bool .true))) .none 5 .none .false [] .false]) .skip)) (.seq (.reg 6 4 [.mk (.some 9) (.mv (.t 0)) .none 6 .none
  .false [] .false, .mk (.some 10) (.iaddr 1 (.t 9) (.k (.int .i64 0))) .none 7 .none .false [] .false, .mk (.some 11) (.load 1 .false (.t 10)) .none 8 .none .false [] .false, .mk
  (.some 3) (.mv (.t 11)) .none 9 .none .false [] .false]) (.seq (.seq (.reg 10 1 [.mk (.some 4) (.mv (.k (.int .i64 1))) .none 10 .none .false [] .false]) (.block 0 (.loop (.seq
  (.seq (.reg 11 4 [.mk (.some 12) (.mv (.t 4)) .none 11 .none .false [] .false, .mk (.some 13) (.mv (.t 0)) .none 12 .none .false [] .false, .mk (.some 14) (.len (.t 13)) .none 13
  .none .false [] .false, .mk (.some 15) (.bin .lss (.t 12) (.t 14)) .none 14 .none .false [] .false]) (.cond (.t 15) .skip (.exit 0))) (.seq (.block 1 (.reg 15 7 [.mk (.some 18)
  (.mv (.t 3)) .none 15 .none .false [] .false, .mk (.some 19) (.mv (.t 0)) .none 16 .none .false [] .false, .mk (.some 20) (.mv (.t 4)) .none 17 .none .false [] .false, .mk (.some
  21) (.iaddr 1 (.t 19) (.t 20)) .none 18 .none .false [] .false, .mk (.some 22) (.load 1 .false (.t 21)) .none 19 .none .false [] .false, .mk (.some 23) (.mm .false (.t 18) (.t
  22)) .none 20 .none .false [] .false, .mk (.some 3) (.mv (.t 23)) .none 21 .none .false [] .false])) (.reg 22 3 [.mk (.some 16) (.mv (.t 4)) .none 22 .none .false [] .false, .mk
  (.some 17) (.bin .add (.t 16) (.k (.int .i64 1))) .none 23 .none .false [] .false, .mk (.some 4) (.mv (.t 17)) .none 24 .none .false [] .false])))))) (.seq (.reg 25 2 [.mk (.some
  24) (.mv (.t 3)) .none 25 .none .false [] .false, .mk (.some 2) (.mv (.t 24)) .none 26 .none .false [] .false]) .ret))))
def rs69 : List IRes := [.tmp 2]
set_option maxRecDepth 100000 in
theorem comp69 : Comp Try.prog 69 ir69 rs69 25 := ⟨⟨_, _, 27, Try.func69, rfl, by kernel_rfl, by kernel_rfl, rfl⟩⟩
theorem body69 : HasBody Try.prog 69 := hasBody_of (by kernel_rfl)

def ir70 : IC :=
  .seq (.reg 0 1 [.mk (.some 2) (.mv (.k (.int .i64 0))) .none 0 .none .false [] .false]) (.seq (.seq (.reg 1 3 [.mk (.some 5) (.mv (.t 0)) .none 1 .none .false [] .false, .mk (.some
  6) (.len (.t 5)) .none 2 .none .false [] .false, .mk (.some 7) (.bin .lss (.t 6) (.k (.int .i64 1))) .none 3 .none .false [] .false]) (.cond (.t 7) (.reg 4 2 [.mk (.some 8) (.pur
  (.mki 9) [.k (.string (ByteArray.mk (Array.mk [115, 108, 105, 99, 101, 115, 46, 77, 97, 120, 58, 32, 101, 109, 112, 116, 121, 32,
  108, 105, 115, 116])))]) .none 4 .none .false [] .false, .mk .none (.lenS (.k (.bool .true))) .none 5 .none .false [] .false]) .skip)) (.seq (.reg 6 4 [.mk (.some 9) (.mv (.t 0)) .none 6 .none
  .false [] .false, .mk (.some 10) (.iaddr 1 (.t 9) (.k (.int .i64 0))) .none 7 .none .false [] .false, .mk (.some 11) (.load 1 .false (.t 10)) .none 8 .none .false [] .false, .mk
  (.some 3) (.mv (.t 11)) .none 9 .none .false [] .false]) (.seq (.seq (.reg 10 1 [.mk (.some 4) (.mv (.k (.int .i64 1))) .none 10 .none .false [] .false]) (.block 0 (.loop (.seq
  (.seq (.reg 11 4 [.mk (.some 12) (.mv (.t 4)) .none 11 .none .false [] .false, .mk (.some 13) (.mv (.t 0)) .none 12 .none .false [] .false, .mk (.some 14) (.len (.t 13)) .none 13
  .none .false [] .false, .mk (.some 15) (.bin .lss (.t 12) (.t 14)) .none 14 .none .false [] .false]) (.cond (.t 15) .skip (.exit 0))) (.seq (.block 1 (.reg 15 7 [.mk (.some 18)
  (.mv (.t 3)) .none 15 .none .false [] .false, .mk (.some 19) (.mv (.t 0)) .none 16 .none .false [] .false, .mk (.some 20) (.mv (.t 4)) .none 17 .none .false [] .false, .mk (.some
  21) (.iaddr 1 (.t 19) (.t 20)) .none 18 .none .false [] .false, .mk (.some 22) (.load 1 .false (.t 21)) .none 19 .none .false [] .false, .mk (.some 23) (.mm .true (.t 18) (.t 22))
  .none 20 .none .false [] .false, .mk (.some 3) (.mv (.t 23)) .none 21 .none .false [] .false])) (.reg 22 3 [.mk (.some 16) (.mv (.t 4)) .none 22 .none .false [] .false, .mk (.some
  17) (.bin .add (.t 16) (.k (.int .i64 1))) .none 23 .none .false [] .false, .mk (.some 4) (.mv (.t 17)) .none 24 .none .false [] .false])))))) (.seq (.reg 25 2 [.mk (.some 24)
  (.mv (.t 3)) .none 25 .none .false [] .false, .mk (.some 2) (.mv (.t 24)) .none 26 .none .false [] .false]) .ret))))
def rs70 : List IRes := [.tmp 2]
set_option maxRecDepth 100000 in
theorem comp70 : Comp Try.prog 70 ir70 rs70 25 := ⟨⟨_, _, 27, Try.func70, rfl, by kernel_rfl, by kernel_rfl, rfl⟩⟩
theorem body70 : HasBody Try.prog 70 := hasBody_of (by kernel_rfl)

def ir96 : IC :=
  .seq (.reg 0 1 [.mk (.some 4) (.mv (.k (.bool .false))) .none 0 .none .false [] .false]) (.seq (.reg 1 13 [.mk (.some 5) (.mv (.t 0)) .none 1 .none .false [] .false, .mk (.some 6)
  (.call 114 [.t 5]) .none 2 .none .false [] .false, .mk (.some 7) (.mv (.t 6)) .none 3 .none .false [] .false, .mk (.some 8) (.mv (.t 1)) (.some (7, .true)) 4 .none .false []
  .false, .mk (.some 9) (.call 114 [.t 8]) (.some (7, .true)) 5 .none .false [] .false, .mk (.some 10) (.un .not (.t 9)) (.some (7, .true)) 6 .none .false [] .false, .mk (.some 11)
  (.pick (.t 7) (.t 10) (.k (.bool .false))) .none 7 .none .false [] .false, .mk (.some 12) (.mv (.t 11)) .none 8 .none .false [] .false, .mk (.some 13) (.mv (.t 0)) (.some (12,
  .false)) 9 .none .false [] .false, .mk (.some 14) (.mv (.t 1)) (.some (12, .false)) 10 .none .false [] .false, .mk (.some 15) (.bin .lss (.t 13) (.t 14)) (.some (12, .false)) 11
  .none .false [] .false, .mk (.some 16) (.pick (.t 12) (.k (.bool .true)) (.t 15)) .none 12 .none .false [] .false, .mk (.some 4) (.mv (.t 16)) .none 13 .none .false [] .false])
  .ret)
def rs96 : List IRes := [.tmp 4]
set_option maxRecDepth 100000 in
theorem comp96 : Comp Try.prog 96 ir96 rs96 17 := ⟨⟨_, _, 14, Try.func96, rfl, by kernel_rfl, by kernel_rfl, rfl⟩⟩
theorem body96 : HasBody Try.prog 96 := hasBody_of (by kernel_rfl)

end Go.Proofs.Ytgpfejgohclheaa
