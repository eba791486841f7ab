/- The intermediate forms of functions of the program (printed by a program of mine), each checked against the code. The intermediate forms of functions of the program (printed by a program of mine), each checked against the code. The intermediate forms of functions of the program (printed by a program of mine), each checked against the code. -/
import Derived.Test.YtgpfejgohclheaaMC
import Derived.Test.YtgpfejgohclheaaProg
import Derived.KernelRfl
namespace Go.Proofs.Ytgpfejgohclheaa
open Go.Pal
def ir37 : IC :=
  .seq (.reg 0 3 [.mk (.some 1) (.box 36 (.t 0)) .none 0 .none .false [] .false, .mk (.some 2) (.alloc 78 [.int .i64 0, .slice .none 0 0, .slice .none 0 0, .slice .none 0 0, .slice
  .none 0 0, .slice .none 0 0, .slice .none 0 0, .int .u8 0, .int .i64 0, .int .i64 0, .int .u8 0, .bool .false, .bool .false, .bool .false, .bool .false, .bool .false, .bool
  .false, .bool .false, .bool .false, .bool .false, .bool .false, .bool .false, .bool .false, .bool .false, .bool .false, .bool .false, .bool .false, .bool .false, .bool .false,
  .bool .false, .bool .false, .bool .false, .bool .false, .bool .false, .bool .false, .bool .false, .bool .false, .bool .false, .bool .false, .bool .false, .bool .false, .bool
  .false, .bool .false, .bool .false, .bool .false, .bool .false, .bool .false, .bool .false, .bool .false, .bool .false, .bool .false, .slice .none 0 0, .slice .none 0 0, .slice
  .none 0 0, .slice .none 0 0, .slice .none 0 0, .slice .none 0 0, .slice .none 0 0, .slice .none 0 0, .slice .none 0 0, .slice .none 0 0, .slice .none 0 0, .slice .none 0 0, .slice
  .none 0 0, .slice .none 0 0, .slice .none 0 0, .slice .none 0 0, .slice .none 0 0, .slice .none 0 0, .slice .none 0 0, .slice .none 0 0, .slice .none 0 0, .slice .none 0 0, .slice
  .none 0 0, .slice .none 0 0, .slice .none 0 0, .slice .none 0 0, .slice .none 0 0, .slice .none 0 0, .slice .none 0 0, .slice .none 0 0, .slice .none 0 0, .slice .none 0 0, .slice
  .none 0 0, .slice .none 0 0, .slice .none 0 0, .slice .none 0 0, .slice .none 0 0, .slice .none 0 0, .slice .none 0 0, .slice .none 0 0]) .none 1 .none .false [] .false, .mk
  (.some 3) (.mv (.k (.int .i64 0))) .none 2 .none .false [] .false]) (.seq (.seq (.reg 3 3 [.mk (.some 7) (.load 11 .true (.t 1)) .none 3 .none .false [] .false, .mk (.some 8)
  (.call 55 [.t 7]) .none 4 .none .false [] .false, .mk (.some 9) (.un .not (.t 8)) .none 5 .none .false [] .false]) (.cond (.t 9) (.seq (.reg 6 3 [.mk (.some 10) (.bld [(0, 11),
  (11, 40), (51, 40)] [.int .i64 0, .slice .none 0 0, .slice .none 0 0, .slice .none 0 0, .slice .none 0 0, .slice .none 0 0, .slice .none 0 0, .int .u8 0, .int .i64 0, .int .i64 0,
  .int .u8 0, .bool .false, .bool .false, .bool .false, .bool .false, .bool .false, .bool .false, .bool .false, .bool .false, .bool .false, .bool .false, .bool .false, .bool .false,
  .bool .false, .bool .false, .bool .false, .bool .false, .bool .false, .bool .false, .bool .false, .bool .false, .bool .false, .bool .false, .bool .false, .bool .false, .bool
  .false, .bool .false, .bool .false, .bool .false, .bool .false, .bool .false, .bool .false, .bool .false, .bool .false, .bool .false, .bool .false, .bool .false, .bool .false,
  .bool .false, .bool .false, .bool .false, .slice .none 0 0, .slice .none 0 0, .slice .none 0 0, .slice .none 0 0, .slice .none 0 0, .slice .none 0 0, .slice .none 0 0, .slice
  .none 0 0, .slice .none 0 0, .slice .none 0 0, .slice .none 0 0, .slice .none 0 0, .slice .none 0 0, .slice .none 0 0, .slice .none 0 0, .slice .none 0 0, .slice .none 0 0, .slice
  .none 0 0, .slice .none 0 0, .slice .none 0 0, .slice .none 0 0, .slice .none 0 0, .slice .none 0 0, .slice .none 0 0, .slice .none 0 0, .slice .none 0 0, .slice .none 0 0, .slice
  .none 0 0, .slice .none 0 0, .slice .none 0 0, .slice .none 0 0, .slice .none 0 0, .slice .none 0 0, .slice .none 0 0, .slice .none 0 0, .slice .none 0 0, .slice .none 0 0, .slice
  .none 0 0, .slice .none 0 0, .slice .none 0 0] []) .none 6 .none .false [] .false, .mk .none (.store 91 (.t 2) (.t 10)) .none 7 .none .false [] .false, .mk (.some 3) (.mv (.k
  (.int .i64 1))) .none 8 .none .false [] .false]) .ret) .skip)) (.seq (.reg 9 4 [.mk (.some 11) (.load 11 .true (.t 1)) .none 9 .none .false [] .false, .mk (.some 12) (.call 56 [.t
  11]) .none 10 .none .false [] .false, .mk (.some 4) (.alloc 78 [.int .i64 0, .slice .none 0 0, .slice .none 0 0, .slice .none 0 0, .slice .none 0 0, .slice .none 0 0, .slice .none
  0 0, .int .u8 0, .int .i64 0, .int .i64 0, .int .u8 0, .bool .false, .bool .false, .bool .false, .bool .false, .bool .false, .bool .false, .bool .false, .bool .false, .bool
  .false, .bool .false, .bool .false, .bool .false, .bool .false, .bool .false, .bool .false, .bool .false, .bool .false, .bool .false, .bool .false, .bool .false, .bool .false,
  .bool .false, .bool .false, .bool .false, .bool .false, .bool .false, .bool .false, .bool .false, .bool .false, .bool .false, .bool .false, .bool .false, .bool .false, .bool
  .false, .bool .false, .bool .false, .bool .false, .bool .false, .bool .false, .bool .false, .slice .none 0 0, .slice .none 0 0, .slice .none 0 0, .slice .none 0 0, .slice .none 0
  0, .slice .none 0 0, .slice .none 0 0, .slice .none 0 0, .slice .none 0 0, .slice .none 0 0, .slice .none 0 0, .slice .none 0 0, .slice .none 0 0, .slice .none 0 0, .slice .none 0
  0, .slice .none 0 0, .slice .none 0 0, .slice .none 0 0, .slice .none 0 0, .slice .none 0 0, .slice .none 0 0, .slice .none 0 0, .slice .none 0 0, .slice .none 0 0, .slice .none 0
  0, .slice .none 0 0, .slice .none 0 0, .slice .none 0 0, .slice .none 0 0, .slice .none 0 0, .slice .none 0 0, .slice .none 0 0, .slice .none 0 0, .slice .none 0 0, .slice .none 0
  0, .slice .none 0 0, .slice .none 0 0, .slice .none 0 0, .slice .none 0 0, .slice .none 0 0]) .none 11 .none .false [] .false, .mk .none (.store 91 (.t 4) (.t 12)) .none 12 .none
  .false [] .false]) (.seq (.seq (.reg 13 7 [.mk (.some 14) (.load 91 .true (.t 4)) .none 13 .none .false [] .false, .mk (.some 15) (.call 57 [.t 14]) .none 14 .none .false []
  .false, .mk (.some 13) (.mv (.t 15)) .none 15 .none .false [] .false, .mk (.some 16) (.ext (.t 13) 0) .none 16 .none .false [] .false, .mk (.some 17) (.ext (.t 13) 1) .none 17
  .none .false [] .false, .mk (.some 5) (.mv (.t 16)) .none 18 .none .false [] .false, .mk (.some 6) (.mv (.t 17)) .none 19 .none .false [] .false]) (.seq (.reg 20 1 [.mk (.some 18)
  (.mv (.t 6)) .none 20 .none .false [] .false]) (.cond (.t 18) (.seq (.reg 21 3 [.mk (.some 19) (.bld [(0, 11), (11, 40), (51, 40)] [.int .i64 0, .slice .none 0 0, .slice .none 0
  0, .slice .none 0 0, .slice .none 0 0, .slice .none 0 0, .slice .none 0 0, .int .u8 0, .int .i64 0, .int .i64 0, .int .u8 0, .bool .false, .bool .false, .bool .false, .bool
  .false, .bool .false, .bool .false, .bool .false, .bool .false, .bool .false, .bool .false, .bool .false, .bool .false, .bool .false, .bool .false, .bool .false, .bool .false,
  .bool .false, .bool .false, .bool .false, .bool .false, .bool .false, .bool .false, .bool .false, .bool .false, .bool .false, .bool .false, .bool .false, .bool .false, .bool
  .false, .bool .false, .bool .false, .bool .false, .bool .false, .bool .false, .bool .false, .bool .false, .bool .false, .bool .false, .bool .false, .bool .false, .slice .none 0 0,
  .slice .none 0 0, .slice .none 0 0, .slice .none 0 0, .slice .none 0 0, .slice .none 0 0, .slice .none 0 0, .slice .none 0 0, .slice .none 0 0, .slice .none 0 0, .slice .none 0 0,
  .slice .none 0 0, .slice .none 0 0, .slice .none 0 0, .slice .none 0 0, .slice .none 0 0, .slice .none 0 0, .slice .none 0 0, .slice .none 0 0, .slice .none 0 0, .slice .none 0 0,
  .slice .none 0 0, .slice .none 0 0, .slice .none 0 0, .slice .none 0 0, .slice .none 0 0, .slice .none 0 0, .slice .none 0 0, .slice .none 0 0, .slice .none 0 0, .slice .none 0 0,
  .slice .none 0 0, .slice .none 0 0, .slice .none 0 0, .slice .none 0 0, .slice .none 0 0, .slice .none 0 0, .slice .none 0 0, .slice .none 0 0, .slice .none 0 0] []) .none 21
  .none .false [] .false, .mk .none (.store 91 (.t 2) (.t 19)) .none 22 .none .false [] .false, .mk (.some 3) (.mv (.k (.int .i64 9))) .none 23 .none .false [] .false]) .ret)
  .skip))) (.seq (.reg 24 3 [.mk (.some 20) (.load 91 .true (.t 4)) .none 24 .none .false [] .false, .mk .none (.store 91 (.t 2) (.t 20)) .none 25 .none .false [] .false, .mk (.some
  3) (.mv (.k (.int .i64 0))) .none 26 .none .false [] .false]) .ret))))
def rs37 : List IRes := [.cell 2 91 .true, .tmp 3]
set_option maxRecDepth 100000 in
theorem comp37 : Comp Try.prog 37 ir37 rs37 21 := ⟨⟨_, _, 27, Try.func37, rfl, by kernel_rfl, by kernel_rfl, rfl⟩⟩
theorem body37 : HasBody Try.prog 37 := hasBody_of (by kernel_rfl)

def ir38 : IC :=
  .seq (.reg 0 2 [.mk (.some 1) (.box 78 (.t 0)) .none 0 .none .false [] .false, .mk (.some 2) (.mv (.k (.slice .none 0 0))) .none 1 .none .false [] .false]) (.seq (.seq (.reg 2 4
  [.mk (.some 4) (.faddr 0 (.t 1)) .none 2 .none .false [] .false, .mk (.some 5) (.faddr 0 (.t 4)) .none 3 .none .false [] .false, .mk (.some 6) (.load 1 .false (.t 5)) .none 4
  .none .false [] .false, .mk (.some 7) (.mv (.k (.int .i64 0))) .none 5 .none .false [] .false]) (.block 0 (.loop (.seq (.reg 6 1 [.mk (.some 8) (.bin .lss (.t 7) (.t 6)) .none 6
  .none .false [] .false]) (.seq (.cond (.t 8) .skip (.exit 0)) (.seq (.block 1 (.seq (.reg 7 2 [.mk (.some 9) (.mv (.t 7)) .none 7 .none .false [] .false, .mk (.some 3) (.mv (.t
  9)) .none 8 .none .false [] .false]) (.seq (.reg 9 6 [.mk (.some 10) (.mv (.t 3)) .none 9 .none .false [] .false, .mk (.some 11) (.faddr 51 (.t 1)) .none 10 .none .false []
  .false, .mk (.some 12) (.aaddr 1 40 (.t 11) (.t 10)) .none 11 .none .false [] .false, .mk (.some 13) (.load 1 .false (.t 12)) .none 12 .none .false [] .false, .mk (.some 14) (.len
  (.t 13)) .none 13 .none .false [] .false, .mk (.some 15) (.bin .gtr (.t 14) (.k (.int .i64 1))) .none 14 .none .false [] .false]) (.cond (.t 15) (.reg 15 5 [.mk (.some 16) (.mv
  (.t 2)) .none 15 .none .false [] .false, .mk (.some 17) (.mv (.t 3)) .none 16 .none .false [] .false, .mk (.some 18) (.bsl 3 1 1 [.int .i64 0] [(0, .t 17)]) .none 17 .none .false
  [] .false, .mk (.some 19) (.app 3 1 8 (.t 16) (.t 18)) .none 18 .none .false [] .false, .mk (.some 2) (.mv (.t 19)) .none 19 .none .false [] .false]) .skip)))) (.reg 20 2 [.mk
  (.some 20) (.bin .add (.t 7) (.k (.int .i64 1))) .none 20 .none .false [] .false, .mk (.some 7) (.mv (.t 20)) .none 21 .none .false [] .false]))))))) (.seq (.reg 22 2 [.mk (.some
  21) (.mv (.t 2)) .none 22 .none .false [] .false, .mk (.some 2) (.mv (.t 21)) .none 23 .none .false [] .false]) .ret))
def rs38 : List IRes := [.tmp 2]
set_option maxRecDepth 100000 in
theorem comp38 : Comp Try.prog 38 ir38 rs38 22 := ⟨⟨_, _, 24, Try.func38, rfl, by kernel_rfl, by kernel_rfl, rfl⟩⟩
theorem body38 : HasBody Try.prog 38 := hasBody_of (by kernel_rfl)

def ir39 : IC :=
  .seq (.reg 0 3 [.mk (.some 1) (.box 36 (.t 0)) .none 0 .none .false [] .false, .mk (.some 2) (.alloc 78 [.int .i64 0, .slice .none 0 0, .slice .none 0 0, .slice .none 0 0, .slice
  .none 0 0, .slice .none 0 0, .slice .none 0 0, .int .u8 0, .int .i64 0, .int .i64 0, .int .u8 0, .bool .false, .bool .false, .bool .false, .bool .false, .bool .false, .bool
  .false, .bool .false, .bool .false, .bool .false, .bool .false, .bool .false, .bool .false, .bool .false, .bool .false, .bool .false, .bool .false, .bool .false, .bool .false,
  .bool .false, .bool .false, .bool .false, .bool .false, .bool .false, .bool .false, .bool .false, .bool .false, .bool .false, .bool .false, .bool .false, .bool .false, .bool
  .false, .bool .false, .bool .false, .bool .false, .bool .false, .bool .false, .bool .false, .bool .false, .bool .false, .bool .false, .slice .none 0 0, .slice .none 0 0, .slice
  .none 0 0, .slice .none 0 0, .slice .none 0 0, .slice .none 0 0, .slice .none 0 0, .slice .none 0 0, .slice .none 0 0, .slice .none 0 0, .slice .none 0 0, .slice .none 0 0, .slice
  .none 0 0, .slice .none 0 0, .slice .none 0 0, .slice .none 0 0, .slice .none 0 0, .slice .none 0 0, .slice .none 0 0, .slice .none 0 0, .slice .none 0 0, .slice .none 0 0, .slice
  .none 0 0, .slice .none 0 0, .slice .none 0 0, .slice .none 0 0, .slice .none 0 0, .slice .none 0 0, .slice .none 0 0, .slice .none 0 0, .slice .none 0 0, .slice .none 0 0, .slice
  .none 0 0, .slice .none 0 0, .slice .none 0 0, .slice .none 0 0, .slice .none 0 0, .slice .none 0 0, .slice .none 0 0, .slice .none 0 0]) .none 1 .none .false [] .false, .mk
  (.some 3) (.mv (.k (.int .i64 0))) .none 2 .none .false [] .false]) (.seq (.reg 3 8 [.mk (.some 7) (.load 11 .true (.t 1)) .none 3 .none .false [] .false, .mk (.some 8) (.call 37
  [.t 7]) .none 4 .none .false [] .false, .mk (.some 6) (.mv (.t 8)) .none 5 .none .false [] .false, .mk (.some 9) (.ext (.t 6) 0) .none 6 .none .false [] .false, .mk (.some 10)
  (.ext (.t 6) 1) .none 7 .none .false [] .false, .mk (.some 4) (.alloc 78 [.int .i64 0, .slice .none 0 0, .slice .none 0 0, .slice .none 0 0, .slice .none 0 0, .slice .none 0 0,
  .slice .none 0 0, .int .u8 0, .int .i64 0, .int .i64 0, .int .u8 0, .bool .false, .bool .false, .bool .false, .bool .false, .bool .false, .bool .false, .bool .false, .bool .false,
  .bool .false, .bool .false, .bool .false, .bool .false, .bool .false, .bool .false, .bool .false, .bool .false, .bool .false, .bool .false, .bool .false, .bool .false, .bool
  .false, .bool .false, .bool .false, .bool .false, .bool .false, .bool .false, .bool .false, .bool .false, .bool .false, .bool .false, .bool .false, .bool .false, .bool .false,
  .bool .false, .bool .false, .bool .false, .bool .false, .bool .false, .bool .false, .bool .false, .slice .none 0 0, .slice .none 0 0, .slice .none 0 0, .slice .none 0 0, .slice
  .none 0 0, .slice .none 0 0, .slice .none 0 0, .slice .none 0 0, .slice .none 0 0, .slice .none 0 0, .slice .none 0 0, .slice .none 0 0, .slice .none 0 0, .slice .none 0 0, .slice
  .none 0 0, .slice .none 0 0, .slice .none 0 0, .slice .none 0 0, .slice .none 0 0, .slice .none 0 0, .slice .none 0 0, .slice .none 0 0, .slice .none 0 0, .slice .none 0 0, .slice
  .none 0 0, .slice .none 0 0, .slice .none 0 0, .slice .none 0 0, .slice .none 0 0, .slice .none 0 0, .slice .none 0 0, .slice .none 0 0, .slice .none 0 0, .slice .none 0 0, .slice
  .none 0 0, .slice .none 0 0, .slice .none 0 0, .slice .none 0 0, .slice .none 0 0, .slice .none 0 0]) .none 8 .none .false [] .false, .mk .none (.store 91 (.t 4) (.t 9)) .none 9
  .none .false [] .false, .mk (.some 5) (.mv (.t 10)) .none 10 .none .false [] .false]) (.seq (.seq (.reg 11 8 [.mk (.some 11) (.mv (.t 5)) .none 11 .none .false [] .false, .mk
  (.some 12) (.bin .eql (.t 11) (.k (.int .i64 0))) .none 12 .none .false [] .false, .mk (.some 13) (.mv (.t 12)) .none 13 .none .false [] .false, .mk (.some 14) (.load 91 .true (.t
  4)) (.some (13, .true)) 14 .none .false [] .false, .mk (.some 15) (.call 38 [.t 14]) (.some (13, .true)) 15 .none .false [] .false, .mk (.some 16) (.len (.t 15)) (.some (13,
  .true)) 16 .none .false [] .false, .mk (.some 17) (.bin .gtr (.t 16) (.k (.int .i64 8))) (.some (13, .true)) 17 .none .false [] .false, .mk (.some 18) (.pick (.t 13) (.t 17) (.k
  (.bool .false))) .none 18 .none .false [] .false]) (.cond (.t 18) (.seq (.reg 19 3 [.mk (.some 19) (.bld [(0, 11), (11, 40), (51, 40)] [.int .i64 0, .slice .none 0 0, .slice .none
  0 0, .slice .none 0 0, .slice .none 0 0, .slice .none 0 0, .slice .none 0 0, .int .u8 0, .int .i64 0, .int .i64 0, .int .u8 0, .bool .false, .bool .false, .bool .false, .bool
  .false, .bool .false, .bool .false, .bool .false, .bool .false, .bool .false, .bool .false, .bool .false, .bool .false, .bool .false, .bool .false, .bool .false, .bool .false,
  .bool .false, .bool .false, .bool .false, .bool .false, .bool .false, .bool .false, .bool .false, .bool .false, .bool .false, .bool .false, .bool .false, .bool .false, .bool
  .false, .bool .false, .bool .false, .bool .false, .bool .false, .bool .false, .bool .false, .bool .false, .bool .false, .bool .false, .bool .false, .bool .false, .slice .none 0 0,
  .slice .none 0 0, .slice .none 0 0, .slice .none 0 0, .slice .none 0 0, .slice .none 0 0, .slice .none 0 0, .slice .none 0 0, .slice .none 0 0, .slice .none 0 0, .slice .none 0 0,
  .slice .none 0 0, .slice .none 0 0, .slice .none 0 0, .slice .none 0 0, .slice .none 0 0, .slice .none 0 0, .slice .none 0 0, .slice .none 0 0, .slice .none 0 0, .slice .none 0 0,
  .slice .none 0 0, .slice .none 0 0, .slice .none 0 0, .slice .none 0 0, .slice .none 0 0, .slice .none 0 0, .slice .none 0 0, .slice .none 0 0, .slice .none 0 0, .slice .none 0 0,
  .slice .none 0 0, .slice .none 0 0, .slice .none 0 0, .slice .none 0 0, .slice .none 0 0, .slice .none 0 0, .slice .none 0 0, .slice .none 0 0, .slice .none 0 0] []) .none 19
  .none .false [] .false, .mk .none (.store 91 (.t 2) (.t 19)) .none 20 .none .false [] .false, .mk (.some 3) (.mv (.k (.int .i64 3))) .none 21 .none .false [] .false]) .ret)
  .skip)) (.seq (.reg 22 4 [.mk (.some 20) (.load 91 .true (.t 4)) .none 22 .none .false [] .false, .mk (.some 21) (.mv (.t 5)) .none 23 .none .false [] .false, .mk .none (.store 91
  (.t 2) (.t 20)) .none 24 .none .false [] .false, .mk (.some 3) (.mv (.t 21)) .none 25 .none .false [] .false]) .ret)))
def rs39 : List IRes := [.cell 2 91 .true, .tmp 3]
set_option maxRecDepth 100000 in
theorem comp39 : Comp Try.prog 39 ir39 rs39 22 := ⟨⟨_, _, 26, Try.func39, rfl, by kernel_rfl, by kernel_rfl, rfl⟩⟩
theorem body39 : HasBody Try.prog 39 := hasBody_of (by kernel_rfl)

def ir40 : IC :=
  .seq (.reg 0 2 [.mk (.some 1) (.box 78 (.t 0)) .none 0 .none .false [] .false, .mk (.some 2) (.mv (.k .nilFunc)) .none 1 .none .false [] .false]) (.seq (.reg 2 2 [.mk (.some 3)
  (.mkf 66 [] [.t 1]) .none 2 .none .false [] .false, .mk (.some 2) (.mv (.t 3)) .none 3 .none .false [] .false]) .ret)
def rs40 : List IRes := [.tmp 2]
set_option maxRecDepth 100000 in
theorem comp40 : Comp Try.prog 40 ir40 rs40 4 := ⟨⟨_, _, 4, Try.func40, rfl, by kernel_rfl, by kernel_rfl, rfl⟩⟩
theorem body40 : HasBody Try.prog 40 := hasBody_of (by kernel_rfl)

def ir41 : IC :=
  .seq (.reg 0 3 [.mk (.some 2) (.box 78 (.t 0)) .none 0 .none .false [] .false, .mk (.some 3) (.box 88 (.t 1)) .none 1 .none .false [] .false, .mk (.some 4) (.alloc 66 [.int .i64 0,
  .int .i64 0]) .none 2 .none .false [] .false]) (.seq (.reg 3 2 [.mk (.some 9) (.mkf 68 [] [.t 4]) .none 3 .none .false [] .false, .mk (.some 5) (.mv (.t 9)) .none 4 .none .false
  [] .false]) (.seq (.seq (.reg 5 4 [.mk (.some 10) (.faddr 0 (.t 2)) .none 5 .none .false [] .false, .mk (.some 11) (.faddr 0 (.t 10)) .none 6 .none .false [] .false, .mk (.some
  12) (.load 1 .false (.t 11)) .none 7 .none .false [] .false, .mk (.some 13) (.mv (.k (.int .i64 0))) .none 8 .none .false [] .false]) (.block 0 (.loop (.seq (.reg 9 1 [.mk (.some
  14) (.bin .lss (.t 13) (.t 12)) .none 9 .none .false [] .false]) (.seq (.cond (.t 14) .skip (.exit 0)) (.seq (.block 1 (.seq (.reg 10 2 [.mk (.some 15) (.mv (.t 13)) .none 10
  .none .false [] .false, .mk (.some 6) (.mv (.t 15)) .none 11 .none .false [] .false]) (.seq (.reg 12 5 [.mk (.some 16) (.mv (.t 6)) .none 12 .none .false [] .false, .mk (.some 17)
  (.faddr 11 (.t 2)) .none 13 .none .false [] .false, .mk (.some 18) (.aaddr 1 40 (.t 17) (.t 16)) .none 14 .none .false [] .false, .mk (.some 19) (.load 1 .false (.t 18)) .none 15
  .none .false [] .false, .mk (.some 20) (.un .not (.t 19)) .none 16 .none .false [] .false]) (.cond (.t 20) (.reg 17 5 [.mk (.some 21) (.mv (.t 5)) .none 17 .none .false [] .false,
  .mk (.some 22) (.mv (.t 6)) .none 18 .none .false [] .false, .mk (.some 23) (.aaddr 1 40 (.t 3) (.t 22)) .none 19 .none .false [] .false, .mk (.some 24) (.load 1 .false (.t 23))
  .none 20 .none .false [] .false, .mk (.some 25) (.callv (.t 21) [.t 24]) .none 21 .none .false [] .false]) .skip)))) (.reg 22 2 [.mk (.some 26) (.bin .add (.t 13) (.k (.int .i64
  1))) .none 22 .none .false [] .false, .mk (.some 13) (.mv (.t 26)) .none 23 .none .false [] .false]))))))) (.seq (.seq (.reg 24 5 [.mk (.some 27) (.faddr 0 (.t 2)) .none 24 .none
  .false [] .false, .mk (.some 28) (.faddr 6 (.t 27)) .none 25 .none .false [] .false, .mk (.some 29) (.load 1 .false (.t 28)) .none 26 .none .false [] .false, .mk (.some 30) (.len
  (.t 29)) .none 27 .none .false [] .false, .mk (.some 31) (.mv (.k (.int .i64 0))) .none 28 .none .false [] .false]) (.block 2 (.loop (.seq (.reg 29 1 [.mk (.some 32) (.bin .lss
  (.t 31) (.t 30)) .none 29 .none .false [] .false]) (.seq (.cond (.t 32) .skip (.exit 2)) (.seq (.block 3 (.seq (.reg 30 4 [.mk (.some 33) (.iaddr 2 (.t 29) (.t 31)) .none 30 .none
  .false [] .false, .mk (.some 34) (.load 2 .true (.t 33)) .none 31 .none .false [] .false, .mk (.some 8) (.alloc 73 [.int .i64 0, .int .i64 0]) .none 32 .none .false [] .false, .mk
  .none (.store 2 (.t 8) (.t 34)) .none 33 .none .false [] .false]) (.seq (.reg 34 21 [.mk (.some 35) (.faddr 1 (.t 8)) .none 34 .none .false [] .false, .mk (.some 36) (.load 1
  .false (.t 35)) .none 35 .none .false [] .false, .mk (.some 37) (.aaddr 1 40 (.t 3) (.t 36)) .none 36 .none .false [] .false, .mk (.some 38) (.load 1 .false (.t 37)) .none 37
  .none .false [] .false, .mk (.some 39) (.bin .eql (.t 38) (.k (.int .u8 0))) .none 38 .none .false [] .false, .mk (.some 40) (.mv (.t 39)) .none 39 .none .false [] .false, .mk
  (.some 41) (.faddr 1 (.t 8)) (.some (40, .true)) 40 .none .false [] .false, .mk (.some 42) (.load 1 .false (.t 41)) (.some (40, .true)) 41 .none .false [] .false, .mk (.some 43)
  (.faddr 11 (.t 2)) (.some (40, .true)) 42 .none .false [] .false, .mk (.some 44) (.aaddr 1 40 (.t 43) (.t 42)) (.some (40, .true)) 43 .none .false [] .false, .mk (.some 45) (.load
  1 .false (.t 44)) (.some (40, .true)) 44 .none .false [] .false, .mk (.some 46) (.un .not (.t 45)) (.some (40, .true)) 45 .none .false [] .false, .mk (.some 47) (.pick (.t 40) (.t
  46) (.k (.bool .false))) .none 46 .none .false [] .false, .mk (.some 48) (.mv (.t 47)) .none 47 .none .false [] .false, .mk (.some 49) (.faddr 0 (.t 8)) (.some (48, .true)) 48
  .none .false [] .false, .mk (.some 50) (.load 1 .false (.t 49)) (.some (48, .true)) 49 .none .false [] .false, .mk (.some 51) (.faddr 11 (.t 2)) (.some (48, .true)) 50 .none
  .false [] .false, .mk (.some 52) (.aaddr 1 40 (.t 51) (.t 50)) (.some (48, .true)) 51 .none .false [] .false, .mk (.some 53) (.load 1 .false (.t 52)) (.some (48, .true)) 52 .none
  .false [] .false, .mk (.some 54) (.un .not (.t 53)) (.some (48, .true)) 53 .none .false [] .false, .mk (.some 55) (.pick (.t 48) (.t 54) (.k (.bool .false))) .none 54 .none .false
  [] .false]) (.cond (.t 55) (.reg 55 6 [.mk (.some 56) (.mv (.t 5)) .none 55 .none .false [] .false, .mk (.some 57) (.faddr 0 (.t 8)) .none 56 .none .false [] .false, .mk (.some
  58) (.load 1 .false (.t 57)) .none 57 .none .false [] .false, .mk (.some 59) (.aaddr 1 40 (.t 3) (.t 58)) .none 58 .none .false [] .false, .mk (.some 60) (.load 1 .false (.t 59))
  .none 59 .none .false [] .false, .mk (.some 61) (.callv (.t 56) [.t 60]) .none 60 .none .false [] .false]) .skip)))) (.reg 61 2 [.mk (.some 62) (.bin .add (.t 31) (.k (.int .i64
  1))) .none 61 .none .false [] .false, .mk (.some 31) (.mv (.t 62)) .none 62 .none .false [] .false]))))))) (.seq (.reg 63 2 [.mk (.some 63) (.load 2 .true (.t 4)) .none 63 .none
  .false [] .false, .mk .none (.store 2 (.t 4) (.t 63)) .none 64 .none .false [] .false]) .ret))))
def rs41 : List IRes := [.cell 4 2 .true]
set_option maxRecDepth 100000 in
theorem comp41 : Comp Try.prog 41 ir41 rs41 64 := ⟨⟨_, _, 65, Try.func41, rfl, by kernel_rfl, by kernel_rfl, rfl⟩⟩
theorem body41 : HasBody Try.prog 41 := hasBody_of (by kernel_rfl)

def ir48 : IC :=
  .seq (.reg 0 3 [.mk (.some 2) (.box 78 (.t 0)) .none 0 .none .false [] .false, .mk (.some 3) (.box 66 (.t 1)) .none 1 .none .false [] .false, .mk (.some 4) (.mv (.k (.int .u8 0)))
  .none 2 .none .false [] .false]) (.seq (.block 0 (.seq (.reg 3 10 [.mk (.some 6) (.faddr 0 (.t 3)) .none 3 .none .false [] .false, .mk (.some 7) (.load 1 .false (.t 6)) .none 4
  .none .false [] .false, .mk (.some 8) (.faddr 1 (.t 3)) .none 5 .none .false [] .false, .mk (.some 9) (.load 1 .false (.t 8)) .none 6 .none .false [] .false, .mk (.some 10) (.bin
  .add (.t 7) (.t 9)) .none 7 .none .false [] .false, .mk (.some 11) (.faddr 0 (.t 2)) .none 8 .none .false [] .false, .mk (.some 12) (.faddr 9 (.t 11)) .none 9 .none .false []
  .false, .mk (.some 13) (.load 1 .false (.t 12)) .none 10 .none .false [] .false, .mk (.some 14) (.bin .lss (.t 10) (.t 13)) .none 11 .none .false [] .false, .mk (.some 5) (.mv (.t
  14)) .none 12 .none .false [] .false]) (.cond (.t 5) (.seq (.reg 13 1 [.mk (.some 4) (.mv (.k (.int .u8 2))) .none 13 .none .false [] .false]) .ret) (.seq (.draw 14 12 [3, 2] []
  [.mk (.some 16) (.call 72 []) .none 14 (.some []) .true [] .false, .mk (.some 17) (.faddr 0 (.t 2)) .none 15 (.some []) .true [] .false, .mk (.some 18) (.faddr 7 (.t 17)) .none 16
  (.some []) .true [] .false, .mk (.some 19) (.load 1 .false (.t 18)) .none 17 (.some []) .true [] .false, .mk (.some 20) (.iaddr 1 (.t 16) (.t 19)) .none 18 (.some [14]) .true []
  .false, .mk (.some 21) (.faddr 0 (.t 20)) .none 19 (.some [14]) .true [] .false, .mk (.some 22) (.load 1 .false (.t 21)) .none 20 (.some [14]) .false [] .false, .mk (.some 23)
  (.faddr 0 (.t 2)) .none 21 (.some []) .true [] .false, .mk (.some 24) (.load 11 .true (.t 23)) .none 22 (.some []) .true [] .false, .mk (.some 25) (.load 2 .true (.t 3)) .none 23
  (.some []) .true [] .false, .mk (.some 26) (.callv (.t 22) [.t 24, .t 25]) .none 24 (.some [14]) .false [] .false, .mk (.some 15) (.mv (.t 26)) .none 25 (.some [14, 24]) .true []
  .false]) (.cond (.t 15) (.seq (.reg 26 1 [.mk (.some 4) (.mv (.k (.int .u8 1))) .none 26 .none .false [] .false]) .ret) .skip))))) (.seq (.reg 27 1 [.mk (.some 4) (.mv (.k (.int
  .u8 0))) .none 27 .none .false [] .false]) .ret))
def rs48 : List IRes := [.tmp 4]
set_option maxRecDepth 100000 in
theorem comp48 : Comp Try.prog 48 ir48 rs48 27 := ⟨⟨_, _, 28, Try.func48, rfl, by kernel_rfl, by kernel_rfl, rfl⟩⟩
theorem body48 : HasBody Try.prog 48 := hasBody_of (by kernel_rfl)

def ir51 : IC :=
  .seq (.reg 0 2 [.mk (.some 1) (.box 78 (.t 0)) .none 0 .none .false [] .false, .mk (.some 2) (.alloc 99 [.slice .none 0 0]) .none 1 .none .false [] .false]) (.seq (.seq (.reg 2 2
  [.mk (.some 4) (.load 91 .true (.t 1)) .none 2 .none .false [] .false, .mk (.some 5) (.call 40 [.t 4]) .none 3 .none .false [] .false]) (.block 0 (.range (.t 5) [6] (.reg 4 2 [.mk
  (.some 3) (.alloc 88 [.int .u8 0, .int .u8 0, .int .u8 0, .int .u8 0, .int .u8 0, .int .u8 0, .int .u8 0, .int .u8 0, .int .u8 0, .int .u8 0, .int .u8 0, .int .u8 0, .int .u8 0,
  .int .u8 0, .int .u8 0, .int .u8 0, .int .u8 0, .int .u8 0, .int .u8 0, .int .u8 0, .int .u8 0, .int .u8 0, .int .u8 0, .int .u8 0, .int .u8 0, .int .u8 0, .int .u8 0, .int .u8 0,
  .int .u8 0, .int .u8 0, .int .u8 0, .int .u8 0, .int .u8 0, .int .u8 0, .int .u8 0, .int .u8 0, .int .u8 0, .int .u8 0, .int .u8 0, .int .u8 0]) .none 4 .none .false [] .false,
  .mk .none (.store 40 (.t 3) (.t 6)) .none 5 .none .false [] .false]) (.block 1 (.draw 6 11 [3, 1] [] [.mk (.some 7) (.load 1 .false (.t 2)) .none 6 (.some []) .true [] .false, .mk
  (.some 8) (.load 40 .true (.t 3)) .none 7 (.some []) .true [] .false, .mk (.some 9) (.load 91 .true (.t 1)) .none 8 (.some []) .true [] .false, .mk (.some 10) (.load 91 .true (.t
  1)) .none 9 (.some []) .true [] .false, .mk (.some 11) (.load 40 .true (.t 3)) .none 10 (.some []) .true [] .false, .mk (.some 12) (.call 41 [.t 10, .t 11]) .none 11 (.some [])
  .true [] .false, .mk (.some 13) (.call 48 [.t 9, .t 12]) .none 12 (.some [11]) .false [] .false, .mk (.some 14) (.bld [(0, 40), (40, 1)] [.int .u8 0, .int .u8 0, .int .u8 0, .int
  .u8 0, .int .u8 0, .int .u8 0, .int .u8 0, .int .u8 0, .int .u8 0, .int .u8 0, .int .u8 0, .int .u8 0, .int .u8 0, .int .u8 0, .int .u8 0, .int .u8 0, .int .u8 0, .int .u8 0, .int
  .u8 0, .int .u8 0, .int .u8 0, .int .u8 0, .int .u8 0, .int .u8 0, .int .u8 0, .int .u8 0, .int .u8 0, .int .u8 0, .int .u8 0, .int .u8 0, .int .u8 0, .int .u8 0, .int .u8 0, .int
  .u8 0, .int .u8 0, .int .u8 0, .int .u8 0, .int .u8 0, .int .u8 0, .int .u8 0, .int .u8 0] [(0, .t 8), (1, .t 13)]) .none 13 (.some [11, 12]) .true [] .false, .mk (.some 15) (.bsl
  127 41 1 [.int .u8 0, .int .u8 0, .int .u8 0, .int .u8 0, .int .u8 0, .int .u8 0, .int .u8 0, .int .u8 0, .int .u8 0, .int .u8 0, .int .u8 0, .int .u8 0, .int .u8 0, .int .u8 0,
  .int .u8 0, .int .u8 0, .int .u8 0, .int .u8 0, .int .u8 0, .int .u8 0, .int .u8 0, .int .u8 0, .int .u8 0, .int .u8 0, .int .u8 0, .int .u8 0, .int .u8 0, .int .u8 0, .int .u8 0,
  .int .u8 0, .int .u8 0, .int .u8 0, .int .u8 0, .int .u8 0, .int .u8 0, .int .u8 0, .int .u8 0, .int .u8 0, .int .u8 0, .int .u8 0, .int .u8 0] [(0, .t 14)]) .none 14 (.some [12,
  11]) .true [] .false, .mk (.some 16) (.app 127 41 41 (.t 7) (.t 15)) .none 15 (.some [11, 12, 14]) .false [] .false, .mk .none (.store 1 (.t 2) (.t 16)) .none 16 (.some [14, 12,
  11, 15]) .true [] .false]))))) (.seq (.reg 17 2 [.mk (.some 17) (.load 1 .false (.t 2)) .none 17 .none .false [] .false, .mk .none (.store 1 (.t 2) (.t 17)) .none 18 .none .false
  [] .false]) .ret))
def rs51 : List IRes := [.cell 2 1 .false]
set_option maxRecDepth 100000 in
theorem comp51 : Comp Try.prog 51 ir51 rs51 18 := ⟨⟨_, _, 19, Try.func51, rfl, by kernel_rfl, by kernel_rfl, rfl⟩⟩
theorem body51 : HasBody Try.prog 51 := hasBody_of (by kernel_rfl)

def ir54 : IC :=
  .seq (.reg 0 1 [.mk (.some 4) (.mv (.k (.bool .false))) .none 0 .none .false [] .false]) (.seq (.reg 1 2 [.mk (.some 14) .mkm .none 1 .none .false [] .false, .mk (.some 5) (.mv (.t
  14)) .none 2 .none .false [] .false]) (.seq (.reg 3 1 [.mk (.some 6) (.mv (.k (.bool .true))) .none 3 .none .false [] .false]) (.seq .skip (.seq (.seq (.reg 4 3 [.mk (.some 15)
  (.mv (.t 0)) .none 4 .none .false [] .false, .mk (.some 16) (.len (.t 15)) .none 5 .none .false [] .false, .mk (.some 17) (.mv (.k (.int .i64 0))) .none 6 .none .false [] .false])
  (.block 0 (.loop (.seq (.reg 7 1 [.mk (.some 18) (.bin .lss (.t 17) (.t 16)) .none 7 .none .false [] .false]) (.seq (.cond (.t 18) .skip (.exit 0)) (.seq (.block 1 (.seq (.reg 8 4
  [.mk (.some 19) (.iaddr 41 (.t 15) (.t 17)) .none 8 .none .false [] .false, .mk (.some 20) (.load 41 .true (.t 19)) .none 9 .none .false [] .false, .mk (.some 8) (.alloc 127 [.int
  .u8 0, .int .u8 0, .int .u8 0, .int .u8 0, .int .u8 0, .int .u8 0, .int .u8 0, .int .u8 0, .int .u8 0, .int .u8 0, .int .u8 0, .int .u8 0, .int .u8 0, .int .u8 0, .int .u8 0, .int
  .u8 0, .int .u8 0, .int .u8 0, .int .u8 0, .int .u8 0, .int .u8 0, .int .u8 0, .int .u8 0, .int .u8 0, .int .u8 0, .int .u8 0, .int .u8 0, .int .u8 0, .int .u8 0, .int .u8 0, .int
  .u8 0, .int .u8 0, .int .u8 0, .int .u8 0, .int .u8 0, .int .u8 0, .int .u8 0, .int .u8 0, .int .u8 0, .int .u8 0, .int .u8 0]) .none 10 .none .false [] .false, .mk .none (.store
  41 (.t 8) (.t 20)) .none 11 .none .false [] .false]) (.seq (.reg 12 1 [.mk (.some 9) (.alloc 88 [.int .u8 0, .int .u8 0, .int .u8 0, .int .u8 0, .int .u8 0, .int .u8 0, .int .u8
  0, .int .u8 0, .int .u8 0, .int .u8 0, .int .u8 0, .int .u8 0, .int .u8 0, .int .u8 0, .int .u8 0, .int .u8 0, .int .u8 0, .int .u8 0, .int .u8 0, .int .u8 0, .int .u8 0, .int .u8
  0, .int .u8 0, .int .u8 0, .int .u8 0, .int .u8 0, .int .u8 0, .int .u8 0, .int .u8 0, .int .u8 0, .int .u8 0, .int .u8 0, .int .u8 0, .int .u8 0, .int .u8 0, .int .u8 0, .int .u8
  0, .int .u8 0, .int .u8 0, .int .u8 0]) .none 12 .none .false [] .false]) (.seq (.seq (.reg 13 3 [.mk (.some 21) (.mv (.t 1)) .none 13 .none .false [] .false, .mk (.some 22) (.len
  (.t 21)) .none 14 .none .false [] .false, .mk (.some 23) (.mv (.k (.int .i64 0))) .none 15 .none .false [] .false]) (.block 2 (.loop (.seq (.reg 16 1 [.mk (.some 24) (.bin .lss
  (.t 23) (.t 22)) .none 16 .none .false [] .false]) (.seq (.cond (.t 24) .skip (.exit 2)) (.seq (.block 3 (.seq (.reg 17 3 [.mk (.some 25) (.iaddr 1 (.t 21) (.t 23)) .none 17 .none
  .false [] .false, .mk (.some 26) (.load 1 .false (.t 25)) .none 18 .none .false [] .false, .mk (.some 11) (.mv (.t 26)) .none 19 .none .false [] .false]) (.reg 20 7 [.mk (.some
  27) (.mv (.t 11)) .none 20 .none .false [] .false, .mk (.some 28) (.mv (.t 11)) .none 21 .none .false [] .false, .mk (.some 29) (.faddr 0 (.t 8)) .none 22 .none .false [] .false,
  .mk (.some 30) (.aaddr 1 40 (.t 29) (.t 28)) .none 23 .none .false [] .false, .mk (.some 31) (.load 1 .false (.t 30)) .none 24 .none .false [] .false, .mk (.some 32) (.aaddr 1 40
  (.t 9) (.t 27)) .none 25 .none .false [] .false, .mk .none (.store 1 (.t 32) (.t 31)) .none 26 .none .false [] .false]))) (.reg 27 2 [.mk (.some 33) (.bin .add (.t 23) (.k (.int
  .i64 1))) .none 27 .none .false [] .false, .mk (.some 23) (.mv (.t 33)) .none 28 .none .false [] .false]))))))) (.seq (.seq (.reg 29 8 [.mk (.some 35) (.mv (.t 5)) .none 29 .none
  .false [] .false, .mk (.some 36) (.load 40 .true (.t 9)) .none 30 .none .false [] .false, .mk (.some 37) (.lkp 88 (.int .u8 0) .true (.t 35) (.t 36)) .none 31 .none .false []
  .false, .mk (.some 34) (.mv (.t 37)) .none 32 .none .false [] .false, .mk (.some 38) (.ext (.t 34) 0) .none 33 .none .false [] .false, .mk (.some 39) (.ext (.t 34) 1) .none 34
  .none .false [] .false, .mk (.some 12) (.mv (.t 38)) .none 35 .none .false [] .false, .mk (.some 13) (.mv (.t 39)) .none 36 .none .false [] .false]) (.seq (.reg 37 7 [.mk (.some
  40) (.mv (.t 13)) .none 37 .none .false [] .false, .mk (.some 41) (.mv (.t 40)) .none 38 .none .false [] .false, .mk (.some 42) (.mv (.t 12)) (.some (41, .true)) 39 .none .false
  [] .false, .mk (.some 43) (.faddr 40 (.t 8)) (.some (41, .true)) 40 .none .false [] .false, .mk (.some 44) (.load 1 .false (.t 43)) (.some (41, .true)) 41 .none .false [] .false,
  .mk (.some 45) (.bin .neq (.t 42) (.t 44)) (.some (41, .true)) 42 .none .false [] .false, .mk (.some 46) (.pick (.t 41) (.t 45) (.k (.bool .false))) .none 43 .none .false []
  .false]) (.cond (.t 46) (.seq (.reg 44 1 [.mk (.some 6) (.mv (.k (.bool .false))) .none 44 .none .false [] .false]) (.exit 0)) .skip))) (.reg 45 5 [.mk (.some 47) (.mv (.t 5))
  .none 45 .none .false [] .false, .mk (.some 48) (.load 40 .true (.t 9)) .none 46 .none .false [] .false, .mk (.some 49) (.faddr 40 (.t 8)) .none 47 .none .false [] .false, .mk
  (.some 50) (.load 1 .false (.t 49)) .none 48 .none .false [] .false, .mk .none (.mup 88 (.t 47) (.t 48) (.t 50)) .none 49 .none .false [] .false])))))) (.reg 50 2 [.mk (.some 51)
  (.bin .add (.t 17) (.k (.int .i64 1))) .none 50 .none .false [] .false, .mk (.some 17) (.mv (.t 51)) .none 51 .none .false [] .false]))))))) (.seq (.reg 52 2 [.mk (.some 52) (.mv
  (.t 6)) .none 52 .none .false [] .false, .mk (.some 4) (.mv (.t 52)) .none 53 .none .false [] .false]) .ret)))))
def rs54 : List IRes := [.tmp 4]
set_option maxRecDepth 100000 in
theorem comp54 : Comp Try.prog 54 ir54 rs54 53 := ⟨⟨_, _, 54, Try.func54, rfl, by kernel_rfl, by kernel_rfl, rfl⟩⟩
theorem body54 : HasBody Try.prog 54 := hasBody_of (by kernel_rfl)

def ir55 : IC :=
  .seq (.reg 0 2 [.mk (.some 1) (.box 36 (.t 0)) .none 0 .none .false [] .false, .mk (.some 2) (.mv (.k (.bool .false))) .none 1 .none .false [] .false]) (.seq (.draw 2 62 [1] [] [.mk
  (.some 3) (.faddr 0 (.t 1)) .none 2 (.some []) .true [] .false, .mk (.some 4) (.load 1 .false (.t 3)) .none 3 (.some []) .true [] .false, .mk (.some 5) (.call 76 [.t 4, .k (.int
  .i64 1), .k (.int .i64 40)]) .none 4 (.some []) .true [] .false, .mk (.some 6) (.mv (.t 5)) .none 5 (.some [4]) .true [] .false, .mk (.some 7) (.faddr 1 (.t 1)) (.some (6, .true))
  6 (.some [4]) .true [] .false, .mk (.some 8) (.pur (.slcS 23 .false .false) [.t 7]) (.some (6, .true)) 7 (.some [4]) .true [] .false, .mk (.some 9) (.load 11 .true (.t 1)) (.some
  (6, .true)) 8 (.some [4]) .false [] .false, .mk (.some 10) (.mkf 78 [.t 9] []) (.some (6, .true)) 9 (.some [4]) .true [] .false, .mk (.some 11) (.call 77 [.t 8, .t 10]) (.some (6,
  .true)) 10 (.some [4]) .false [] .false, .mk (.some 12) (.pick (.t 6) (.t 11) (.k (.bool .false))) .none 11 (.some [10, 4]) .true [] .false, .mk (.some 13) (.mv (.t 12)) .none 12
  (.some [4, 10]) .true [] .false, .mk (.some 14) (.faddr 3 (.t 1)) (.some (13, .true)) 13 (.some [10, 4]) .true [] .false, .mk (.some 15) (.pur (.slcS 23 .false .false) [.t 14])
  (.some (13, .true)) 14 (.some [4, 10]) .true [] .false, .mk (.some 16) (.load 11 .true (.t 1)) (.some (13, .true)) 15 (.some [10, 4]) .false [] .false, .mk (.some 17) (.mkf 78 [.t
  16] []) (.some (13, .true)) 16 (.some [4, 10]) .true [] .false, .mk (.some 18) (.call 77 [.t 15, .t 17]) (.some (13, .true)) 17 (.some [10, 4]) .false [] .false, .mk (.some 19)
  (.pick (.t 13) (.t 18) (.k (.bool .false))) .none 18 (.some [17, 10, 4]) .true [] .false, .mk (.some 20) (.mv (.t 19)) .none 19 (.some [4, 10, 17]) .true [] .false, .mk (.some 21)
  (.faddr 5 (.t 1)) (.some (20, .true)) 20 (.some [17, 10, 4]) .true [] .false, .mk (.some 22) (.load 1 .false (.t 21)) (.some (20, .true)) 21 (.some [4, 10, 17]) .false [] .false,
  .mk (.some 23) (.len (.t 22)) (.some (20, .true)) 22 (.some [17, 10, 4]) .true [] .false, .mk (.some 24) (.bin .leq (.t 23) (.k (.int .i64 10))) (.some (20, .true)) 23 (.some [4,
  10, 17]) .true [] .false, .mk (.some 25) (.pick (.t 20) (.t 24) (.k (.bool .false))) .none 24 (.some [17, 10, 4]) .true [] .false, .mk (.some 26) (.mv (.t 25)) .none 25 (.some [4,
  10, 17]) .true [] .false, .mk (.some 27) (.faddr 6 (.t 1)) (.some (26, .true)) 26 (.some [17, 10, 4]) .true [] .false, .mk (.some 28) (.load 1 .false (.t 27)) (.some (26, .true))
  27 (.some [4, 10, 17]) .false [] .false, .mk (.some 29) (.len (.t 28)) (.some (26, .true)) 28 (.some [17, 10, 4]) .true [] .false, .mk (.some 30) (.bin .leq (.t 29) (.k (.int .i64
  10))) (.some (26, .true)) 29 (.some [4, 10, 17]) .true [] .false, .mk (.some 31) (.pick (.t 26) (.t 30) (.k (.bool .false))) .none 30 (.some [17, 10, 4]) .true [] .false, .mk
  (.some 32) (.mv (.t 31)) .none 31 (.some [4, 10, 17]) .true [] .false, .mk (.some 33) (.load 11 .true (.t 1)) (.some (32, .true)) 32 (.some [17, 10, 4]) .false [] .false, .mk
  (.some 34) (.call 79 [.t 33]) (.some (32, .true)) 33 (.some [4, 10, 17]) .false [] .false, .mk (.some 35) (.pick (.t 32) (.t 34) (.k (.bool .false))) .none 34 (.some [33, 17, 10,
  4]) .true [] .false, .mk (.some 36) (.mv (.t 35)) .none 35 (.some [4, 10, 17, 33]) .true [] .false, .mk (.some 37) (.faddr 7 (.t 1)) (.some (36, .true)) 36 (.some [33, 17, 10, 4])
  .true [] .false, .mk (.some 38) (.load 1 .false (.t 37)) (.some (36, .true)) 37 (.some [4, 10, 17, 33]) .false [] .false, .mk (.some 39) (.conv .i64 (.t 38)) (.some (36, .true))
  38 (.some [33, 17, 10, 4]) .true [] .false, .mk (.some 40) (.call 72 []) (.some (36, .true)) 39 (.some [33, 17, 10, 4]) .false [] .false, .mk (.some 41) (.len (.t 40)) (.some (36,
  .true)) 40 (.some [4, 10, 17, 33, 39]) .true [] .false, .mk (.some 42) (.bin .lss (.t 39) (.t 41)) (.some (36, .true)) 41 (.some [39, 4, 10, 17, 33]) .true [] .false, .mk (.some
  43) (.pick (.t 36) (.t 42) (.k (.bool .false))) .none 42 (.some [39, 33, 17, 10, 4]) .true [] .false, .mk (.some 44) (.mv (.t 43)) .none 43 (.some [4, 10, 17, 33, 39]) .true []
  .false, .mk (.some 45) (.faddr 8 (.t 1)) (.some (44, .true)) 44 (.some [39, 33, 17, 10, 4]) .true [] .false, .mk (.some 46) (.load 1 .false (.t 45)) (.some (44, .true)) 45 (.some
  [4, 10, 17, 33, 39]) .false [] .false, .mk (.some 47) (.call 76 [.t 46, .k (.int .i64 0), .k (.int .i64 40)]) (.some (44, .true)) 46 (.some [39, 33, 17, 10, 4]) .false [] .false,
  .mk (.some 48) (.pick (.t 44) (.t 47) (.k (.bool .false))) .none 47 (.some [46, 39, 33, 17, 10, 4]) .true [] .false, .mk (.some 49) (.mv (.t 48)) .none 48 (.some [4, 10, 17, 33,
  39, 46]) .true [] .false, .mk (.some 50) (.faddr 9 (.t 1)) (.some (49, .true)) 49 (.some [46, 39, 33, 17, 10, 4]) .true [] .false, .mk (.some 51) (.load 1 .false (.t 50)) (.some
  (49, .true)) 50 (.some [4, 10, 17, 33, 39, 46]) .false [] .false, .mk (.some 52) (.call 76 [.t 51, .k (.int .i64 0), .k (.int .i64 40)]) (.some (49, .true)) 51 (.some [46, 39, 33,
  17, 10, 4]) .false [] .false, .mk (.some 53) (.pick (.t 49) (.t 52) (.k (.bool .false))) .none 52 (.some [51, 46, 39, 33, 17, 10, 4]) .true [] .false, .mk (.some 54) (.mv (.t 53))
  .none 53 (.some [4, 10, 17, 33, 39, 46, 51]) .true [] .false, .mk (.some 55) (.faddr 10 (.t 1)) (.some (54, .true)) 54 (.some [51, 46, 39, 33, 17, 10, 4]) .true [] .false, .mk
  (.some 56) (.load 1 .false (.t 55)) (.some (54, .true)) 55 (.some [4, 10, 17, 33, 39, 46, 51]) .false [] .false, .mk (.some 57) (.bin .eql (.t 56) (.k (.int .u8 1))) (.some (54,
  .true)) 56 (.some [51, 46, 39, 33, 17, 10, 4]) .true [] .false, .mk (.some 58) (.mv (.t 57)) (.some (54, .true)) 57 (.some [4, 10, 17, 33, 39, 46, 51]) .true [] .false, .mk (.some
  59) (.faddr 10 (.t 1)) (.some (58, .false)) 58 (.some [51, 46, 39, 33, 17, 10, 4]) .true [] .false, .mk (.some 60) (.load 1 .false (.t 59)) (.some (58, .false)) 59 (.some [4, 10,
  17, 33, 39, 46, 51]) .false [] .false, .mk (.some 61) (.bin .eql (.t 60) (.k (.int .u8 2))) (.some (58, .false)) 60 (.some [51, 46, 39, 33, 17, 10, 4]) .true [] .false, .mk (.some
  62) (.pick (.t 58) (.k (.bool .true)) (.t 61)) (.some (54, .true)) 61 (.some [51, 46, 39, 33, 17, 10, 4]) .true [] .false, .mk (.some 63) (.pick (.t 54) (.t 62) (.k (.bool
  .false))) .none 62 (.some [51, 46, 39, 33, 17, 10, 4]) .true [] .false, .mk (.some 2) (.mv (.t 63)) .none 63 (.some [4, 10, 17, 33, 39, 46, 51]) .true [] .false]) .ret)
def rs55 : List IRes := [.tmp 2]
set_option maxRecDepth 100000 in
theorem comp55 : Comp Try.prog 55 ir55 rs55 64 := ⟨⟨_, _, 64, Try.func55, rfl, by kernel_rfl, by kernel_rfl, rfl⟩⟩
theorem body55 : HasBody Try.prog 55 := hasBody_of (by kernel_rfl)

def ir56 : IC :=
  .seq (.reg 0 2 [.mk (.some 1) (.box 36 (.t 0)) .none 0 .none .false [] .false, .mk (.some 2) (.alloc 78 [.int .i64 0, .slice .none 0 0, .slice .none 0 0, .slice .none 0 0, .slice
  .none 0 0, .slice .none 0 0, .slice .none 0 0, .int .u8 0, .int .i64 0, .int .i64 0, .int .u8 0, .bool .false, .bool .false, .bool .false, .bool .false, .bool .false, .bool
  .false, .bool .false, .bool .false, .bool .false, .bool .false, .bool .false, .bool .false, .bool .false, .bool .false, .bool .false, .bool .false, .bool .false, .bool .false,
  .bool .false, .bool .false, .bool .false, .bool .false, .bool .false, .bool .false, .bool .false, .bool .false, .bool .false, .bool .false, .bool .false, .bool .false, .bool
  .false, .bool .false, .bool .false, .bool .false, .bool .false, .bool .false, .bool .false, .bool .false, .bool .false, .bool .false, .slice .none 0 0, .slice .none 0 0, .slice
  .none 0 0, .slice .none 0 0, .slice .none 0 0, .slice .none 0 0, .slice .none 0 0, .slice .none 0 0, .slice .none 0 0, .slice .none 0 0, .slice .none 0 0, .slice .none 0 0, .slice
  .none 0 0, .slice .none 0 0, .slice .none 0 0, .slice .none 0 0, .slice .none 0 0, .slice .none 0 0, .slice .none 0 0, .slice .none 0 0, .slice .none 0 0, .slice .none 0 0, .slice
  .none 0 0, .slice .none 0 0, .slice .none 0 0, .slice .none 0 0, .slice .none 0 0, .slice .none 0 0, .slice .none 0 0, .slice .none 0 0, .slice .none 0 0, .slice .none 0 0, .slice
  .none 0 0, .slice .none 0 0, .slice .none 0 0, .slice .none 0 0, .slice .none 0 0, .slice .none 0 0, .slice .none 0 0, .slice .none 0 0]) .none 1 .none .false [] .false]) (.seq
  (.reg 2 4 [.mk (.some 7) (.load 11 .true (.t 1)) .none 2 .none .false [] .false, .mk (.some 8) (.bld [(0, 11), (11, 40), (51, 40)] [.int .i64 0, .slice .none 0 0, .slice .none 0
  0, .slice .none 0 0, .slice .none 0 0, .slice .none 0 0, .slice .none 0 0, .int .u8 0, .int .i64 0, .int .i64 0, .int .u8 0, .bool .false, .bool .false, .bool .false, .bool
  .false, .bool .false, .bool .false, .bool .false, .bool .false, .bool .false, .bool .false, .bool .false, .bool .false, .bool .false, .bool .false, .bool .false, .bool .false,
  .bool .false, .bool .false, .bool .false, .bool .false, .bool .false, .bool .false, .bool .false, .bool .false, .bool .false, .bool .false, .bool .false, .bool .false, .bool
  .false, .bool .false, .bool .false, .bool .false, .bool .false, .bool .false, .bool .false, .bool .false, .bool .false, .bool .false, .bool .false, .bool .false, .slice .none 0 0,
  .slice .none 0 0, .slice .none 0 0, .slice .none 0 0, .slice .none 0 0, .slice .none 0 0, .slice .none 0 0, .slice .none 0 0, .slice .none 0 0, .slice .none 0 0, .slice .none 0 0,
  .slice .none 0 0, .slice .none 0 0, .slice .none 0 0, .slice .none 0 0, .slice .none 0 0, .slice .none 0 0, .slice .none 0 0, .slice .none 0 0, .slice .none 0 0, .slice .none 0 0,
  .slice .none 0 0, .slice .none 0 0, .slice .none 0 0, .slice .none 0 0, .slice .none 0 0, .slice .none 0 0, .slice .none 0 0, .slice .none 0 0, .slice .none 0 0, .slice .none 0 0,
  .slice .none 0 0, .slice .none 0 0, .slice .none 0 0, .slice .none 0 0, .slice .none 0 0, .slice .none 0 0, .slice .none 0 0, .slice .none 0 0, .slice .none 0 0] [(0, .t 7)])
  .none 3 .none .false [] .false, .mk (.some 3) (.alloc 78 [.int .i64 0, .slice .none 0 0, .slice .none 0 0, .slice .none 0 0, .slice .none 0 0, .slice .none 0 0, .slice .none 0 0,
  .int .u8 0, .int .i64 0, .int .i64 0, .int .u8 0, .bool .false, .bool .false, .bool .false, .bool .false, .bool .false, .bool .false, .bool .false, .bool .false, .bool .false,
  .bool .false, .bool .false, .bool .false, .bool .false, .bool .false, .bool .false, .bool .false, .bool .false, .bool .false, .bool .false, .bool .false, .bool .false, .bool
  .false, .bool .false, .bool .false, .bool .false, .bool .false, .bool .false, .bool .false, .bool .false, .bool .false, .bool .false, .bool .false, .bool .false, .bool .false,
  .bool .false, .bool .false, .bool .false, .bool .false, .bool .false, .bool .false, .slice .none 0 0, .slice .none 0 0, .slice .none 0 0, .slice .none 0 0, .slice .none 0 0,
  .slice .none 0 0, .slice .none 0 0, .slice .none 0 0, .slice .none 0 0, .slice .none 0 0, .slice .none 0 0, .slice .none 0 0, .slice .none 0 0, .slice .none 0 0, .slice .none 0 0,
  .slice .none 0 0, .slice .none 0 0, .slice .none 0 0, .slice .none 0 0, .slice .none 0 0, .slice .none 0 0, .slice .none 0 0, .slice .none 0 0, .slice .none 0 0, .slice .none 0 0,
  .slice .none 0 0, .slice .none 0 0, .slice .none 0 0, .slice .none 0 0, .slice .none 0 0, .slice .none 0 0, .slice .none 0 0, .slice .none 0 0, .slice .none 0 0, .slice .none 0 0,
  .slice .none 0 0, .slice .none 0 0, .slice .none 0 0, .slice .none 0 0, .slice .none 0 0]) .none 4 .none .false [] .false, .mk .none (.store 91 (.t 3) (.t 8)) .none 5 .none .false
  [] .false]) (.seq (.seq (.reg 6 4 [.mk (.some 9) (.faddr 5 (.t 1)) .none 6 .none .false [] .false, .mk (.some 10) (.load 1 .false (.t 9)) .none 7 .none .false [] .false, .mk
  (.some 11) (.len (.t 10)) .none 8 .none .false [] .false, .mk (.some 12) (.mv (.k (.int .i64 0))) .none 9 .none .false [] .false]) (.block 0 (.loop (.seq (.reg 10 1 [.mk (.some
  13) (.bin .lss (.t 12) (.t 11)) .none 10 .none .false [] .false]) (.seq (.cond (.t 13) .skip (.exit 0)) (.seq (.block 1 (.seq (.reg 11 4 [.mk (.some 14) (.iaddr 2 (.t 10) (.t 12))
  .none 11 .none .false [] .false, .mk (.some 15) (.load 2 .true (.t 14)) .none 12 .none .false [] .false, .mk (.some 5) (.alloc 71 [.int .i64 0, .int .i64 0]) .none 13 .none .false
  [] .false, .mk .none (.store 2 (.t 5) (.t 15)) .none 14 .none .false [] .false]) (.drawd 15 10 [] [] [] [.none, .some [5], .none, .some [5], .none, .none, .some [3], .none, .none,
  .some [3]] [(0, .mk (.some 16) (.faddr 0 (.t 5)) .none 15 (.some []) .true [] .false), (1, .mk (.some 17) (.load 1 .false (.t 16)) .none 16 (.some []) .true [0] .false), (2, .mk
  (.some 18) (.faddr 1 (.t 5)) .none 17 (.some []) .true [] .false), (3, .mk (.some 19) (.load 1 .false (.t 18)) .none 18 (.some []) .true [2] .false), (4, .mk (.some 20) (.faddr 11
  (.t 3)) .none 19 (.some []) .true [] .false), (5, .mk (.some 21) (.aaddr 1 40 (.t 20) (.t 17)) .none 20 (.some []) .true [0, 1, 4] .false), (6, .mk .none (.store 1 (.t 21) (.k
  (.bool .true))) .none 21 (.some []) .true [4, 1, 0, 5] .false), (7, .mk (.some 22) (.faddr 11 (.t 3)) .none 22 (.some []) .true [] .false), (8, .mk (.some 23) (.aaddr 1 40 (.t 22)
  (.t 19)) .none 23 (.some []) .true [6, 5, 4, 1, 0, 2, 3, 7] .false), (9, .mk .none (.store 1 (.t 23) (.k (.bool .true))) .none 24 (.some []) .true [7, 3, 2, 0, 1, 4, 5, 6, 8]
  .false)]))) (.reg 25 2 [.mk (.some 24) (.bin .add (.t 12) (.k (.int .i64 1))) .none 25 .none .false [] .false, .mk (.some 12) (.mv (.t 24)) .none 26 .none .false [] .false])))))))
  (.seq (.seq (.reg 27 3 [.mk (.some 25) (.faddr 0 (.t 1)) .none 27 .none .false [] .false, .mk (.some 26) (.load 1 .false (.t 25)) .none 28 .none .false [] .false, .mk (.some 27)
  (.mv (.k (.int .i64 0))) .none 29 .none .false [] .false]) (.block 2 (.loop (.seq (.reg 30 1 [.mk (.some 28) (.bin .lss (.t 27) (.t 26)) .none 30 .none .false [] .false]) (.seq
  (.cond (.t 28) .skip (.exit 2)) (.seq (.block 3 (.seq (.reg 31 2 [.mk (.some 29) (.mv (.t 27)) .none 31 .none .false [] .false, .mk (.some 6) (.mv (.t 29)) .none 32 .none .false
  [] .false]) (.reg 33 7 [.mk (.some 30) (.mv (.t 6)) .none 33 .none .false [] .false, .mk (.some 31) (.load 11 .true (.t 1)) .none 34 .none .false [] .false, .mk (.some 32) (.mv
  (.t 6)) .none 35 .none .false [] .false, .mk (.some 33) (.call 80 [.t 31, .t 32]) .none 36 .none .false [] .false, .mk (.some 34) (.faddr 51 (.t 3)) .none 37 .none .false []
  .false, .mk (.some 35) (.aaddr 1 40 (.t 34) (.t 30)) .none 38 .none .false [] .false, .mk .none (.store 1 (.t 35) (.t 33)) .none 39 .none .false [] .false]))) (.reg 40 2 [.mk
  (.some 36) (.bin .add (.t 27) (.k (.int .i64 1))) .none 40 .none .false [] .false, .mk (.some 27) (.mv (.t 36)) .none 41 .none .false [] .false]))))))) (.seq (.reg 42 2 [.mk
  (.some 37) (.load 91 .true (.t 3)) .none 42 .none .false [] .false, .mk .none (.store 91 (.t 2) (.t 37)) .none 43 .none .false [] .false]) .ret))))
def rs56 : List IRes := [.cell 2 91 .true]
set_option maxRecDepth 100000 in
theorem comp56 : Comp Try.prog 56 ir56 rs56 38 := ⟨⟨_, _, 44, Try.func56, rfl, by kernel_rfl, by kernel_rfl, rfl⟩⟩
theorem body56 : HasBody Try.prog 56 := hasBody_of (by kernel_rfl)

def ir66 : IC :=
  .seq (.reg 0 1 [.mk (.some 2) (.box 113 (.t 0)) .none 0 .none .false [] .false]) (.seq (.reg 1 1 [.mk (.some 3) (.alloc 114 [.nilFunc]) .none 1 .none .false [] .false]) (.seq (.reg
  2 2 [.mk (.some 4) (.mkf 67 [] [.t 1, .t 2, .t 3]) .none 2 .none .false [] .false, .mk .none (.store 1 (.t 3) (.t 4)) .none 3 .none .false [] .false]) (.reg 4 3 [.mk (.some 5)
  (.load 1 .false (.t 3)) .none 4 .none .false [] .false, .mk (.some 6) (.bld [(0, 1), (1, 1), (2, 1), (3, 1), (4, 1), (5, 1), (6, 1), (7, 1), (8, 1), (9, 1), (10, 1), (11, 1), (12,
  1), (13, 1), (14, 1), (15, 1), (16, 1), (17, 1), (18, 1), (19, 1), (20, 1), (21, 1), (22, 1), (23, 1), (24, 1), (25, 1), (26, 1), (27, 1), (28, 1), (29, 1), (30, 1), (31, 1), (32,
  1), (33, 1), (34, 1), (35, 1), (36, 1), (37, 1), (38, 1), (39, 1)] [.int .u8 0, .int .u8 0, .int .u8 0, .int .u8 0, .int .u8 0, .int .u8 0, .int .u8 0, .int .u8 0, .int .u8 0,
  .int .u8 0, .int .u8 0, .int .u8 0, .int .u8 0, .int .u8 0, .int .u8 0, .int .u8 0, .int .u8 0, .int .u8 0, .int .u8 0, .int .u8 0, .int .u8 0, .int .u8 0, .int .u8 0, .int .u8 0,
  .int .u8 0, .int .u8 0, .int .u8 0, .int .u8 0, .int .u8 0, .int .u8 0, .int .u8 0, .int .u8 0, .int .u8 0, .int .u8 0, .int .u8 0, .int .u8 0, .int .u8 0, .int .u8 0, .int .u8 0,
  .int .u8 0] []) .none 5 .none .false [] .false, .mk (.some 7) (.callv (.t 5) [.t 6, .k (.int .i64 0)]) .none 6 .none .false [] .false])))
def rs66 : List IRes := []
set_option maxRecDepth 100000 in
theorem comp66 : Comp Try.prog 66 ir66 rs66 8 := ⟨⟨_, _, 7, Try.func66, rfl, by kernel_rfl, by kernel_rfl, rfl⟩⟩
theorem body66 : HasBody Try.prog 66 := hasBody_of (by kernel_rfl)

def ir67 : IC :=
  .seq (.reg 0 2 [.mk (.some 5) (.box 88 (.t 0)) .none 0 .none .false [] .false, .mk (.some 7) (.mv (.k (.bool .false))) .none 1 .none .false [] .false]) (.seq (.seq (.reg 2 5 [.mk
  (.some 10) (.mv (.t 1)) .none 2 .none .false [] .false, .mk (.some 11) (.faddr 0 (.t 2)) .none 3 .none .false [] .false, .mk (.some 12) (.faddr 0 (.t 11)) .none 4 .none .false []
  .false, .mk (.some 13) (.load 1 .false (.t 12)) .none 5 .none .false [] .false, .mk (.some 14) (.bin .eql (.t 10) (.t 13)) .none 6 .none .false [] .false]) (.cond (.t 14) (.seq
  (.reg 7 4 [.mk (.some 15) (.load 1 .false (.t 3)) .none 7 .none .false [] .false, .mk (.some 16) (.load 40 .true (.t 5)) .none 8 .none .false [] .false, .mk (.some 17) (.callv (.t
  15) [.t 16]) .none 9 .none .false [] .false, .mk (.some 7) (.mv (.t 17)) .none 10 .none .false [] .false]) .ret) .skip)) (.seq (.seq (.reg 11 6 [.mk (.some 18) (.mv (.t 1)) .none
  11 .none .false [] .false, .mk (.some 19) (.faddr 51 (.t 2)) .none 12 .none .false [] .false, .mk (.some 20) (.aaddr 1 40 (.t 19) (.t 18)) .none 13 .none .false [] .false, .mk
  (.some 21) (.load 1 .false (.t 20)) .none 14 .none .false [] .false, .mk (.some 22) (.len (.t 21)) .none 15 .none .false [] .false, .mk (.some 23) (.mv (.k (.int .i64 0))) .none
  16 .none .false [] .false]) (.block 0 (.loop (.seq (.reg 17 1 [.mk (.some 24) (.bin .lss (.t 23) (.t 22)) .none 17 .none .false [] .false]) (.seq (.cond (.t 24) .skip (.exit 0))
  (.seq (.block 1 (.seq (.reg 18 3 [.mk (.some 25) (.iaddr 1 (.t 21) (.t 23)) .none 18 .none .false [] .false, .mk (.some 26) (.load 1 .false (.t 25)) .none 19 .none .false []
  .false, .mk (.some 9) (.mv (.t 26)) .none 20 .none .false [] .false]) (.seq (.reg 21 4 [.mk (.some 27) (.mv (.t 1)) .none 21 .none .false [] .false, .mk (.some 28) (.mv (.t 9))
  .none 22 .none .false [] .false, .mk (.some 29) (.aaddr 1 40 (.t 5) (.t 27)) .none 23 .none .false [] .false, .mk .none (.store 1 (.t 29) (.t 28)) .none 24 .none .false []
  .false]) (.seq (.reg 25 6 [.mk (.some 30) (.load 1 .false (.t 4)) .none 25 .none .false [] .false, .mk (.some 31) (.load 40 .true (.t 5)) .none 26 .none .false [] .false, .mk
  (.some 32) (.mv (.t 1)) .none 27 .none .false [] .false, .mk (.some 33) (.bin .add (.t 32) (.k (.int .i64 1))) .none 28 .none .false [] .false, .mk (.some 34) (.callv (.t 30) [.t
  31, .t 33]) .none 29 .none .false [] .false, .mk (.some 35) (.un .not (.t 34)) .none 30 .none .false [] .false]) (.cond (.t 35) (.seq (.reg 31 1 [.mk (.some 7) (.mv (.k (.bool
  .false))) .none 31 .none .false [] .false]) .ret) .skip))))) (.reg 32 2 [.mk (.some 36) (.bin .add (.t 23) (.k (.int .i64 1))) .none 32 .none .false [] .false, .mk (.some 23) (.mv
  (.t 36)) .none 33 .none .false [] .false]))))))) (.seq (.reg 34 1 [.mk (.some 7) (.mv (.k (.bool .true))) .none 34 .none .false [] .false]) .ret)))
def rs67 : List IRes := [.tmp 7]
set_option maxRecDepth 100000 in
theorem comp67 : Comp Try.prog 67 ir67 rs67 37 := ⟨⟨_, _, 35, Try.func67, rfl, by kernel_rfl, by kernel_rfl, rfl⟩⟩
theorem body67 : HasBody Try.prog 67 := hasBody_of (by kernel_rfl)

def ir68 : IC :=
  .seq (.reg 1 1 [.mk (.some 3) (.mv (.t 0)) .none 1 .none .false [] .false]) (.block 0 (.seq (.reg 2 2 [.mk (.some 5) (.bin .eql (.t 3) (.k (.int .u8 1))) .none 2 .none .false []
  .false, .mk (.some 4) (.mv (.t 5)) .none 3 .none .false [] .false]) (.cond (.t 4) (.reg 4 5 [.mk (.some 6) (.faddr 0 (.t 1)) .none 4 .none .false [] .false, .mk (.some 7) (.load 1
  .false (.t 6)) .none 5 .none .false [] .false, .mk (.some 8) (.bin .add (.t 7) (.k (.int .i64 1))) .none 6 .none .false [] .false, .mk (.some 9) (.faddr 0 (.t 1)) .none 7 .none
  .false [] .false, .mk .none (.store 1 (.t 9) (.t 8)) .none 8 .none .false [] .false]) (.seq (.reg 9 2 [.mk (.some 11) (.bin .eql (.t 3) (.k (.int .u8 2))) .none 9 .none .false []
  .false, .mk (.some 10) (.mv (.t 11)) .none 10 .none .false [] .false]) (.cond (.t 10) (.reg 11 5 [.mk (.some 12) (.faddr 1 (.t 1)) .none 11 .none .false [] .false, .mk (.some 13)
  (.load 1 .false (.t 12)) .none 12 .none .false [] .false, .mk (.some 14) (.bin .add (.t 13) (.k (.int .i64 1))) .none 13 .none .false [] .false, .mk (.some 15) (.faddr 1 (.t 1))
  .none 14 .none .false [] .false, .mk .none (.store 1 (.t 15) (.t 14)) .none 15 .none .false [] .false]) .skip)))))
def rs68 : List IRes := []
set_option maxRecDepth 100000 in
theorem comp68 : CompAt Try.prog 68 1 ir68 rs68 16 := ⟨⟨_, _, 16, Try.func68, rfl, by kernel_rfl, by kernel_rfl, rfl⟩⟩
theorem body68 : HasBody Try.prog 68 := hasBody_of (by kernel_rfl)

def ir72 : IC :=
  .seq (.reg 0 1 [.mk (.some 0) (.mv (.k (.slice .none 0 0))) .none 0 .none .false [] .false]) (.seq (.reg 1 2 [.mk (.some 1) (.alloc 134 [.nilFunc]) .none 1 .none .false [] .false,
  .mk .none (.store 1 (.t 1) (.f 86)) .none 2 .none .false [] .false]) (.seq (.reg 3 7 [.mk (.some 2) (.mkf 87 [] [.t 1]) .none 3 .none .false [] .false, .mk (.some 3) (.bld [(0,
  1)] [.nilFunc] [(0, .t 2)]) .none 4 .none .false [] .false, .mk (.some 4) (.mkf 88 [] [.t 1]) .none 5 .none .false [] .false, .mk (.some 5) (.bld [(0, 1)] [.nilFunc] [(0, .t 4)])
  .none 6 .none .false [] .false, .mk (.some 6) (.bld [(0, 1)] [.nilFunc] [(0, .f 89)]) .none 7 .none .false [] .false, .mk (.some 7) (.bsl 119 1 3 [.nilFunc, .nilFunc, .nilFunc]
  [(0, .t 3), (1, .t 5), (2, .t 6)]) .none 8 .none .false [] .false, .mk (.some 0) (.mv (.t 7)) .none 9 .none .false [] .false]) .ret))
def rs72 : List IRes := [.tmp 0]
set_option maxRecDepth 100000 in
theorem comp72 : Comp Try.prog 72 ir72 rs72 8 := ⟨⟨_, _, 10, Try.func72, rfl, by kernel_rfl, by kernel_rfl, rfl⟩⟩
theorem body72 : HasBody Try.prog 72 := hasBody_of (by kernel_rfl)

def ir79 : IC :=
  .seq (.reg 0 2 [.mk (.some 1) (.box 36 (.t 0)) .none 0 .none .false [] .false, .mk (.some 2) (.mv (.k (.bool .false))) .none 1 .none .false [] .false]) (.seq (.reg 2 5 [.mk (.some
  9) .mkm .none 2 .none .false [] .false, .mk (.some 10) .mkm .none 3 .none .false [] .false, .mk (.some 4) (.alloc 147 [.map .none]) .none 4 .none .false [] .false, .mk (.some 3)
  (.mv (.t 9)) .none 5 .none .false [] .false, .mk .none (.store 1 (.t 4) (.t 10)) .none 6 .none .false [] .false]) (.seq (.seq (.reg 7 4 [.mk (.some 11) (.faddr 5 (.t 1)) .none 7
  .none .false [] .false, .mk (.some 12) (.load 1 .false (.t 11)) .none 8 .none .false [] .false, .mk (.some 13) (.len (.t 12)) .none 9 .none .false [] .false, .mk (.some 14) (.mv
  (.k (.int .i64 0))) .none 10 .none .false [] .false]) (.block 0 (.loop (.seq (.reg 11 1 [.mk (.some 15) (.bin .lss (.t 14) (.t 13)) .none 11 .none .false [] .false]) (.seq (.cond
  (.t 15) .skip (.exit 0)) (.seq (.block 1 (.seq (.reg 12 4 [.mk (.some 16) (.iaddr 2 (.t 12) (.t 14)) .none 12 .none .false [] .false, .mk (.some 17) (.load 2 .true (.t 16)) .none
  13 .none .false [] .false, .mk (.some 6) (.alloc 71 [.int .i64 0, .int .i64 0]) .none 14 .none .false [] .false, .mk .none (.store 2 (.t 6) (.t 17)) .none 15 .none .false []
  .false]) (.seq (.seq (.reg 16 31 [.mk (.some 18) (.load 11 .true (.t 1)) .none 16 .none .false [] .false, .mk (.some 19) (.faddr 0 (.t 6)) .none 17 .none .false [] .false, .mk
  (.some 20) (.load 1 .false (.t 19)) .none 18 .none .false [] .false, .mk (.some 21) (.call 103 [.t 18, .t 20]) .none 19 .none .false [] .false, .mk (.some 22) (.un .not (.t 21))
  .none 20 .none .false [] .false, .mk (.some 23) (.mv (.t 22)) .none 21 .none .false [] .false, .mk (.some 24) (.load 11 .true (.t 1)) (.some (23, .false)) 22 .none .false []
  .false, .mk (.some 25) (.faddr 1 (.t 6)) (.some (23, .false)) 23 .none .false [] .false, .mk (.some 26) (.load 1 .false (.t 25)) (.some (23, .false)) 24 .none .false [] .false,
  .mk (.some 27) (.call 103 [.t 24, .t 26]) (.some (23, .false)) 25 .none .false [] .false, .mk (.some 28) (.un .not (.t 27)) (.some (23, .false)) 26 .none .false [] .false, .mk
  (.some 29) (.pick (.t 23) (.k (.bool .true)) (.t 28)) .none 27 .none .false [] .false, .mk (.some 30) (.mv (.t 29)) .none 28 .none .false [] .false, .mk (.some 31) (.faddr 0 (.t
  6)) (.some (30, .false)) 29 .none .false [] .false, .mk (.some 32) (.load 1 .false (.t 31)) (.some (30, .false)) 30 .none .false [] .false, .mk (.some 33) (.faddr 1 (.t 6)) (.some
  (30, .false)) 31 .none .false [] .false, .mk (.some 34) (.load 1 .false (.t 33)) (.some (30, .false)) 32 .none .false [] .false, .mk (.some 35) (.bin .eql (.t 32) (.t 34)) (.some
  (30, .false)) 33 .none .false [] .false, .mk (.some 36) (.pick (.t 30) (.k (.bool .true)) (.t 35)) .none 34 .none .false [] .false, .mk (.some 37) (.mv (.t 36)) .none 35 .none
  .false [] .false, .mk (.some 38) (.mv (.t 3)) (.some (37, .false)) 36 .none .false [] .false, .mk (.some 39) (.faddr 0 (.t 6)) (.some (37, .false)) 37 .none .false [] .false, .mk
  (.some 40) (.load 1 .false (.t 39)) (.some (37, .false)) 38 .none .false [] .false, .mk (.some 41) (.lkp 3 (.bool .false) .false (.t 38) (.t 40)) (.some (37, .false)) 39 .none
  .false [] .false, .mk (.some 42) (.pick (.t 37) (.k (.bool .true)) (.t 41)) .none 40 .none .false [] .false, .mk (.some 43) (.mv (.t 42)) .none 41 .none .false [] .false, .mk
  (.some 44) (.mv (.t 3)) (.some (43, .false)) 42 .none .false [] .false, .mk (.some 45) (.faddr 1 (.t 6)) (.some (43, .false)) 43 .none .false [] .false, .mk (.some 46) (.load 1
  .false (.t 45)) (.some (43, .false)) 44 .none .false [] .false, .mk (.some 47) (.lkp 3 (.bool .false) .false (.t 44) (.t 46)) (.some (43, .false)) 45 .none .false [] .false, .mk
  (.some 48) (.pick (.t 43) (.k (.bool .true)) (.t 47)) .none 46 .none .false [] .false]) (.cond (.t 48) (.seq (.reg 47 1 [.mk (.some 2) (.mv (.k (.bool .false))) .none 47 .none
  .false [] .false]) .ret) .skip)) (.drawd 48 8 [] [] [] [.none, .none, .some [6], .none, .none, .some [6], .some [3], .some [3]] [(0, .mk (.some 49) (.mv (.t 3)) .none 48 (.some
  []) .true [] .false), (1, .mk (.some 50) (.faddr 0 (.t 6)) .none 49 (.some []) .true [] .false), (2, .mk (.some 51) (.load 1 .false (.t 50)) .none 50 (.some []) .true [1] .false),
  (3, .mk (.some 52) (.mv (.t 3)) .none 51 (.some []) .true [] .false), (4, .mk (.some 53) (.faddr 1 (.t 6)) .none 52 (.some []) .true [] .false), (5, .mk (.some 54) (.load 1 .false
  (.t 53)) .none 53 (.some []) .true [4] .false), (6, .mk .none (.mup 3 (.t 49) (.t 51) (.k (.bool .true))) .none 54 (.some []) .true [1, 2, 0] .false), (7, .mk .none (.mup 3 (.t
  52) (.t 54) (.k (.bool .true))) .none 55 (.some []) .true [0, 2, 1, 6, 4, 5, 3] .false)])))) (.reg 56 2 [.mk (.some 55) (.bin .add (.t 14) (.k (.int .i64 1))) .none 56 .none
  .false [] .false, .mk (.some 14) (.mv (.t 55)) .none 57 .none .false [] .false]))))))) (.seq (.seq (.reg 58 4 [.mk (.some 56) (.faddr 6 (.t 1)) .none 58 .none .false [] .false,
  .mk (.some 57) (.load 1 .false (.t 56)) .none 59 .none .false [] .false, .mk (.some 58) (.len (.t 57)) .none 60 .none .false [] .false, .mk (.some 59) (.mv (.k (.int .i64 0)))
  .none 61 .none .false [] .false]) (.block 2 (.loop (.seq (.reg 62 1 [.mk (.some 60) (.bin .lss (.t 59) (.t 58)) .none 62 .none .false [] .false]) (.seq (.cond (.t 60) .skip (.exit
  2)) (.seq (.block 3 (.seq (.reg 63 4 [.mk (.some 61) (.iaddr 2 (.t 57) (.t 59)) .none 63 .none .false [] .false, .mk (.some 62) (.load 2 .true (.t 61)) .none 64 .none .false []
  .false, .mk (.some 8) (.alloc 73 [.int .i64 0, .int .i64 0]) .none 65 .none .false [] .false, .mk .none (.store 2 (.t 8) (.t 62)) .none 66 .none .false [] .false]) (.seq (.seq
  (.reg 67 25 [.mk (.some 63) (.load 11 .true (.t 1)) .none 67 .none .false [] .false, .mk (.some 64) (.faddr 0 (.t 8)) .none 68 .none .false [] .false, .mk (.some 65) (.load 1
  .false (.t 64)) .none 69 .none .false [] .false, .mk (.some 66) (.call 103 [.t 63, .t 65]) .none 70 .none .false [] .false, .mk (.some 67) (.un .not (.t 66)) .none 71 .none .false
  [] .false, .mk (.some 68) (.mv (.t 67)) .none 72 .none .false [] .false, .mk (.some 69) (.load 11 .true (.t 1)) (.some (68, .false)) 73 .none .false [] .false, .mk (.some 70)
  (.faddr 1 (.t 8)) (.some (68, .false)) 74 .none .false [] .false, .mk (.some 71) (.load 1 .false (.t 70)) (.some (68, .false)) 75 .none .false [] .false, .mk (.some 72) (.call 103
  [.t 69, .t 71]) (.some (68, .false)) 76 .none .false [] .false, .mk (.some 73) (.un .not (.t 72)) (.some (68, .false)) 77 .none .false [] .false, .mk (.some 74) (.pick (.t 68) (.k
  (.bool .true)) (.t 73)) .none 78 .none .false [] .false, .mk (.some 75) (.mv (.t 74)) .none 79 .none .false [] .false, .mk (.some 76) (.faddr 0 (.t 8)) (.some (75, .false)) 80
  .none .false [] .false, .mk (.some 77) (.load 1 .false (.t 76)) (.some (75, .false)) 81 .none .false [] .false, .mk (.some 78) (.faddr 1 (.t 8)) (.some (75, .false)) 82 .none
  .false [] .false, .mk (.some 79) (.load 1 .false (.t 78)) (.some (75, .false)) 83 .none .false [] .false, .mk (.some 80) (.bin .eql (.t 77) (.t 79)) (.some (75, .false)) 84 .none
  .false [] .false, .mk (.some 81) (.pick (.t 75) (.k (.bool .true)) (.t 80)) .none 85 .none .false [] .false, .mk (.some 82) (.mv (.t 81)) .none 86 .none .false [] .false, .mk
  (.some 83) (.load 1 .false (.t 4)) (.some (82, .false)) 87 .none .false [] .false, .mk (.some 84) (.faddr 1 (.t 8)) (.some (82, .false)) 88 .none .false [] .false, .mk (.some 85)
  (.load 1 .false (.t 84)) (.some (82, .false)) 89 .none .false [] .false, .mk (.some 86) (.lkp 3 (.bool .false) .false (.t 83) (.t 85)) (.some (82, .false)) 90 .none .false []
  .false, .mk (.some 87) (.pick (.t 82) (.k (.bool .true)) (.t 86)) .none 91 .none .false [] .false]) (.cond (.t 87) (.seq (.reg 92 1 [.mk (.some 2) (.mv (.k (.bool .false))) .none
  92 .none .false [] .false]) .ret) .skip)) (.reg 93 4 [.mk (.some 88) (.load 1 .false (.t 4)) .none 93 .none .false [] .false, .mk (.some 89) (.faddr 1 (.t 8)) .none 94 .none
  .false [] .false, .mk (.some 90) (.load 1 .false (.t 89)) .none 95 .none .false [] .false, .mk .none (.mup 3 (.t 88) (.t 90) (.k (.bool .true))) .none 96 .none .false []
  .false])))) (.reg 97 2 [.mk (.some 91) (.bin .add (.t 59) (.k (.int .i64 1))) .none 97 .none .false [] .false, .mk (.some 59) (.mv (.t 91)) .none 98 .none .false [] .false])))))))
  (.seq (.reg 99 5 [.mk (.some 92) (.faddr 6 (.t 1)) .none 99 .none .false [] .false, .mk (.some 93) (.load 1 .false (.t 92)) .none 100 .none .false [] .false, .mk (.some 94) (.mkf
  105 [] [.t 4]) .none 101 .none .false [] .false, .mk (.some 95) (.call 104 [.t 93, .t 94]) .none 102 .none .false [] .false, .mk (.some 2) (.mv (.t 95)) .none 103 .none .false []
  .false]) .ret))))
def rs79 : List IRes := [.tmp 2]
set_option maxRecDepth 100000 in
theorem comp79 : Comp Try.prog 79 ir79 rs79 96 := ⟨⟨_, _, 104, Try.func79, rfl, by kernel_rfl, by kernel_rfl, rfl⟩⟩
theorem body79 : HasBody Try.prog 79 := hasBody_of (by kernel_rfl)

def ir86 : IC :=
  .seq (.reg 0 2 [.mk (.some 1) (.box 36 (.t 0)) .none 0 .none .false [] .false, .mk (.some 2) (.mv (.k (.bool .false))) .none 1 .none .false [] .false]) (.seq (.reg 2 4 [.mk (.some
  3) (.faddr 10 (.t 1)) .none 2 .none .false [] .false, .mk (.some 4) (.load 1 .false (.t 3)) .none 3 .none .false [] .false, .mk (.some 5) (.bin .eql (.t 4) (.k (.int .u8 1)))
  .none 4 .none .false [] .false, .mk (.some 2) (.mv (.t 5)) .none 5 .none .false [] .false]) .ret)
def rs86 : List IRes := [.tmp 2]
set_option maxRecDepth 100000 in
theorem comp86 : Comp Try.prog 86 ir86 rs86 6 := ⟨⟨_, _, 6, Try.func86, rfl, by kernel_rfl, by kernel_rfl, rfl⟩⟩
theorem body86 : HasBody Try.prog 86 := hasBody_of (by kernel_rfl)

def ir87 : IC :=
  .seq (.reg 0 3 [.mk (.some 3) (.box 36 (.t 0)) .none 0 .none .false [] .false, .mk (.some 4) (.box 66 (.t 1)) .none 1 .none .false [] .false, .mk (.some 5) (.mv (.k (.bool .false)))
  .none 2 .none .false [] .false]) (.seq (.reg 3 18 [.mk (.some 6) (.faddr 0 (.t 4)) .none 3 .none .false [] .false, .mk (.some 7) (.load 1 .false (.t 6)) .none 4 .none .false []
  .false, .mk (.some 8) (.faddr 1 (.t 4)) .none 5 .none .false [] .false, .mk (.some 9) (.load 1 .false (.t 8)) .none 6 .none .false [] .false, .mk (.some 10) (.bin .gtr (.t 7) (.t
  9)) .none 7 .none .false [] .false, .mk (.some 11) (.mv (.t 10)) .none 8 .none .false [] .false, .mk (.some 12) (.faddr 0 (.t 4)) (.some (11, .false)) 9 .none .false [] .false,
  .mk (.some 13) (.load 1 .false (.t 12)) (.some (11, .false)) 10 .none .false [] .false, .mk (.some 14) (.faddr 1 (.t 4)) (.some (11, .false)) 11 .none .false [] .false, .mk (.some
  15) (.load 1 .false (.t 14)) (.some (11, .false)) 12 .none .false [] .false, .mk (.some 16) (.bin .eql (.t 13) (.t 15)) (.some (11, .false)) 13 .none .false [] .false, .mk (.some
  17) (.mv (.t 16)) (.some (11, .false)) 14 .none .false [] .false, .mk (.some 18) (.load 1 .false (.t 2)) (.some (17, .true)) 15 .none .false [] .false, .mk (.some 19) (.load 11
  .true (.t 3)) (.some (17, .true)) 16 .none .false [] .false, .mk (.some 20) (.callv (.t 18) [.t 19]) (.some (17, .true)) 17 .none .false [] .false, .mk (.some 21) (.pick (.t 17)
  (.t 20) (.k (.bool .false))) (.some (11, .false)) 18 .none .false [] .false, .mk (.some 22) (.pick (.t 11) (.k (.bool .true)) (.t 21)) .none 19 .none .false [] .false, .mk (.some
  5) (.mv (.t 22)) .none 20 .none .false [] .false]) .ret)
def rs87 : List IRes := [.tmp 5]
set_option maxRecDepth 100000 in
theorem comp87 : Comp Try.prog 87 ir87 rs87 23 := ⟨⟨_, _, 21, Try.func87, rfl, by kernel_rfl, by kernel_rfl, rfl⟩⟩
theorem body87 : HasBody Try.prog 87 := hasBody_of (by kernel_rfl)

def ir88 : IC :=
  .seq (.reg 0 3 [.mk (.some 3) (.box 36 (.t 0)) .none 0 .none .false [] .false, .mk (.some 4) (.box 66 (.t 1)) .none 1 .none .false [] .false, .mk (.some 5) (.mv (.k (.bool .false)))
  .none 2 .none .false [] .false]) (.seq (.reg 3 19 [.mk (.some 6) (.faddr 0 (.t 4)) .none 3 .none .false [] .false, .mk (.some 7) (.load 1 .false (.t 6)) .none 4 .none .false []
  .false, .mk (.some 8) (.faddr 8 (.t 3)) .none 5 .none .false [] .false, .mk (.some 9) (.load 1 .false (.t 8)) .none 6 .none .false [] .false, .mk (.some 10) (.bin .geq (.t 7) (.t
  9)) .none 7 .none .false [] .false, .mk (.some 11) (.mv (.t 10)) .none 8 .none .false [] .false, .mk (.some 12) (.faddr 0 (.t 4)) (.some (11, .false)) 9 .none .false [] .false,
  .mk (.some 13) (.load 1 .false (.t 12)) (.some (11, .false)) 10 .none .false [] .false, .mk (.some 14) (.faddr 8 (.t 3)) (.some (11, .false)) 11 .none .false [] .false, .mk (.some
  15) (.load 1 .false (.t 14)) (.some (11, .false)) 12 .none .false [] .false, .mk (.some 16) (.bin .sub (.t 15) (.k (.int .i64 1))) (.some (11, .false)) 13 .none .false [] .false,
  .mk (.some 17) (.bin .eql (.t 13) (.t 16)) (.some (11, .false)) 14 .none .false [] .false, .mk (.some 18) (.mv (.t 17)) (.some (11, .false)) 15 .none .false [] .false, .mk (.some
  19) (.load 1 .false (.t 2)) (.some (18, .true)) 16 .none .false [] .false, .mk (.some 20) (.load 11 .true (.t 3)) (.some (18, .true)) 17 .none .false [] .false, .mk (.some 21)
  (.callv (.t 19) [.t 20]) (.some (18, .true)) 18 .none .false [] .false, .mk (.some 22) (.pick (.t 18) (.t 21) (.k (.bool .false))) (.some (11, .false)) 19 .none .false [] .false,
  .mk (.some 23) (.pick (.t 11) (.k (.bool .true)) (.t 22)) .none 20 .none .false [] .false, .mk (.some 5) (.mv (.t 23)) .none 21 .none .false [] .false]) .ret)
def rs88 : List IRes := [.tmp 5]
set_option maxRecDepth 100000 in
theorem comp88 : Comp Try.prog 88 ir88 rs88 24 := ⟨⟨_, _, 22, Try.func88, rfl, by kernel_rfl, by kernel_rfl, rfl⟩⟩
theorem body88 : HasBody Try.prog 88 := hasBody_of (by kernel_rfl)

def ir89 : IC :=
  .seq (.reg 0 3 [.mk (.some 2) (.box 36 (.t 0)) .none 0 .none .false [] .false, .mk (.some 3) (.box 66 (.t 1)) .none 1 .none .false [] .false, .mk (.some 4) (.mv (.k (.bool .false)))
  .none 2 .none .false [] .false]) (.seq (.reg 3 16 [.mk (.some 5) (.faddr 0 (.t 3)) .none 3 .none .false [] .false, .mk (.some 6) (.load 1 .false (.t 5)) .none 4 .none .false []
  .false, .mk (.some 7) (.bin .mul (.k (.int .i64 3)) (.t 6)) .none 5 .none .false [] .false, .mk (.some 8) (.faddr 0 (.t 3)) .none 6 .none .false [] .false, .mk (.some 9) (.load 1
  .false (.t 8)) .none 7 .none .false [] .false, .mk (.some 10) (.faddr 1 (.t 3)) .none 8 .none .false [] .false, .mk (.some 11) (.load 1 .false (.t 10)) .none 9 .none .false []
  .false, .mk (.some 12) (.bin .add (.t 9) (.t 11)) .none 10 .none .false [] .false, .mk (.some 13) (.bin .mul (.k (.int .i64 2)) (.t 12)) .none 11 .none .false [] .false, .mk
  (.some 14) (.bin .geq (.t 7) (.t 13)) .none 12 .none .false [] .false, .mk (.some 15) (.mv (.t 14)) .none 13 .none .false [] .false, .mk (.some 16) (.faddr 0 (.t 3)) (.some (15,
  .true)) 14 .none .false [] .false, .mk (.some 17) (.load 1 .false (.t 16)) (.some (15, .true)) 15 .none .false [] .false, .mk (.some 18) (.bin .geq (.t 17) (.k (.int .i64 1)))
  (.some (15, .true)) 16 .none .false [] .false, .mk (.some 19) (.pick (.t 15) (.t 18) (.k (.bool .false))) .none 17 .none .false [] .false, .mk (.some 4) (.mv (.t 19)) .none 18
  .none .false [] .false]) .ret)
def rs89 : List IRes := [.tmp 4]
set_option maxRecDepth 100000 in
theorem comp89 : Comp Try.prog 89 ir89 rs89 20 := ⟨⟨_, _, 19, Try.func89, rfl, by kernel_rfl, by kernel_rfl, rfl⟩⟩
theorem body89 : HasBody Try.prog 89 := hasBody_of (by kernel_rfl)

def ir25 : IC :=
  .seq (.reg 0 3 [.mk (.some 1) (.box 36 (.t 0)) .none 0 .none .false [] .false, .mk (.some 2) (.mv (.k (.int .i64 0))) .none 1 .none .false [] .false, .mk (.some 3) (.mv (.k (.int
  .i64 0))) .none 2 .none .false [] .false]) (.seq (.seq (.reg 3 3 [.mk (.some 6) (.load 11 .true (.t 1)) .none 3 .none .false [] .false, .mk (.some 7) (.call 55 [.t 6]) .none 4
  .none .false [] .false, .mk (.some 8) (.un .not (.t 7)) .none 5 .none .false [] .false]) (.cond (.t 8) (.seq (.reg 6 2 [.mk (.some 2) (.mv (.k (.int .i64 0))) .none 6 .none .false
  [] .false, .mk (.some 3) (.mv (.k (.int .i64 1))) .none 7 .none .false [] .false]) .ret) .skip)) (.seq (.reg 8 8 [.mk (.some 10) (.load 11 .true (.t 1)) .none 8 .none .false []
  .false, .mk (.some 11) (.call 56 [.t 10]) .none 9 .none .false [] .false, .mk (.some 12) (.call 57 [.t 11]) .none 10 .none .false [] .false, .mk (.some 9) (.mv (.t 12)) .none 11
  .none .false [] .false, .mk (.some 13) (.ext (.t 9) 0) .none 12 .none .false [] .false, .mk (.some 14) (.ext (.t 9) 1) .none 13 .none .false [] .false, .mk (.some 4) (.mv (.t 13))
  .none 14 .none .false [] .false, .mk (.some 5) (.mv (.t 14)) .none 15 .none .false [] .false]) (.seq (.seq (.reg 16 2 [.mk (.some 15) (.mv (.t 5)) .none 16 .none .false [] .false,
  .mk (.some 16) (.un .not (.t 15)) .none 17 .none .false [] .false]) (.cond (.t 16) (.seq (.reg 18 2 [.mk (.some 2) (.mv (.k (.int .i64 0))) .none 18 .none .false [] .false, .mk
  (.some 3) (.mv (.k (.int .i64 7))) .none 19 .none .false [] .false]) .ret) .skip)) (.seq (.reg 20 3 [.mk (.some 17) (.mv (.t 4)) .none 20 .none .false [] .false, .mk (.some 2)
  (.mv (.t 17)) .none 21 .none .false [] .false, .mk (.some 3) (.mv (.k (.int .i64 0))) .none 22 .none .false [] .false]) .ret))))
def rs25 : List IRes := [.tmp 2, .tmp 3]
set_option maxRecDepth 100000 in
theorem comp25 : Comp Try.prog 25 ir25 rs25 18 := ⟨⟨_, _, 23, Try.func25, rfl, by kernel_rfl, by kernel_rfl, rfl⟩⟩
theorem body25 : HasBody Try.prog 25 := hasBody_of (by kernel_rfl)

def ir11 : IC :=
  .seq (.reg 0 3 [.mk (.some 1) (.box 36 (.t 0)) .none 0 .none .false [] .false, .mk (.some 2) (.mv (.k (.slice .none 0 0))) .none 1 .none .false [] .false, .mk (.some 3) (.mv (.k
  (.int .i64 0))) .none 2 .none .false [] .false]) (.seq (.reg 3 8 [.mk (.some 7) (.load 11 .true (.t 1)) .none 3 .none .false [] .false, .mk (.some 8) (.call 37 [.t 7]) .none 4
  .none .false [] .false, .mk (.some 6) (.mv (.t 8)) .none 5 .none .false [] .false, .mk (.some 9) (.ext (.t 6) 0) .none 6 .none .false [] .false, .mk (.some 10) (.ext (.t 6) 1)
  .none 7 .none .false [] .false, .mk (.some 4) (.alloc 78 [.int .i64 0, .slice .none 0 0, .slice .none 0 0, .slice .none 0 0, .slice .none 0 0, .slice .none 0 0, .slice .none 0 0,
  .int .u8 0, .int .i64 0, .int .i64 0, .int .u8 0, .bool .false, .bool .false, .bool .false, .bool .false, .bool .false, .bool .false, .bool .false, .bool .false, .bool .false,
  .bool .false, .bool .false, .bool .false, .bool .false, .bool .false, .bool .false, .bool .false, .bool .false, .bool .false, .bool .false, .bool .false, .bool .false, .bool
  .false, .bool .false, .bool .false, .bool .false, .bool .false, .bool .false, .bool .false, .bool .false, .bool .false, .bool .false, .bool .false, .bool .false, .bool .false,
  .bool .false, .bool .false, .bool .false, .bool .false, .bool .false, .bool .false, .slice .none 0 0, .slice .none 0 0, .slice .none 0 0, .slice .none 0 0, .slice .none 0 0,
  .slice .none 0 0, .slice .none 0 0, .slice .none 0 0, .slice .none 0 0, .slice .none 0 0, .slice .none 0 0, .slice .none 0 0, .slice .none 0 0, .slice .none 0 0, .slice .none 0 0,
  .slice .none 0 0, .slice .none 0 0, .slice .none 0 0, .slice .none 0 0, .slice .none 0 0, .slice .none 0 0, .slice .none 0 0, .slice .none 0 0, .slice .none 0 0, .slice .none 0 0,
  .slice .none 0 0, .slice .none 0 0, .slice .none 0 0, .slice .none 0 0, .slice .none 0 0, .slice .none 0 0, .slice .none 0 0, .slice .none 0 0, .slice .none 0 0, .slice .none 0 0,
  .slice .none 0 0, .slice .none 0 0, .slice .none 0 0, .slice .none 0 0, .slice .none 0 0]) .none 8 .none .false [] .false, .mk .none (.store 91 (.t 4) (.t 9)) .none 9 .none .false
  [] .false, .mk (.some 5) (.mv (.t 10)) .none 10 .none .false [] .false]) (.seq (.seq (.reg 11 2 [.mk (.some 11) (.mv (.t 5)) .none 11 .none .false [] .false, .mk (.some 12) (.bin
  .neq (.t 11) (.k (.int .i64 0))) .none 12 .none .false [] .false]) (.cond (.t 12) (.seq (.reg 13 3 [.mk (.some 13) (.mv (.t 5)) .none 13 .none .false [] .false, .mk (.some 2) (.mv
  (.k (.slice .none 0 0))) .none 14 .none .false [] .false, .mk (.some 3) (.mv (.t 13)) .none 15 .none .false [] .false]) .ret) .skip)) (.seq (.reg 16 4 [.mk (.some 14) (.load 91
  .true (.t 4)) .none 16 .none .false [] .false, .mk (.some 15) (.call 38 [.t 14]) .none 17 .none .false [] .false, .mk (.some 2) (.mv (.t 15)) .none 18 .none .false [] .false, .mk
  (.some 3) (.mv (.k (.int .i64 0))) .none 19 .none .false [] .false]) .ret)))
def rs11 : List IRes := [.tmp 2, .tmp 3]
set_option maxRecDepth 100000 in
theorem comp11 : Comp Try.prog 11 ir11 rs11 16 := ⟨⟨_, _, 20, Try.func11, rfl, by kernel_rfl, by kernel_rfl, rfl⟩⟩
theorem body11 : HasBody Try.prog 11 := hasBody_of (by kernel_rfl)

end Go.Proofs.Ytgpfejgohclheaa

namespace Go.Proofs.Ytgpfejgohclheaa
open Go.Pal
def ir13 : IC :=
  .seq (.reg 0 4 [.mk (.some 1) (.box 36 (.t 0)) .none 0 .none .false [] .false, .mk (.some 2) (.alloc 39 [.int .i64 0, .int .i64 0]) .none 1 .none .false [] .false, .mk (.some 3)
  (.alloc 39 [.int .i64 0, .int .i64 0]) .none 2 .none .false [] .false, .mk (.some 4) (.mv (.k (.int .i64 0))) .none 3 .none .false [] .false]) (.seq (.reg 4 8 [.mk (.some 11)
  (.load 11 .true (.t 1)) .none 4 .none .false [] .false, .mk (.some 12) (.call 39 [.t 11]) .none 5 .none .false [] .false, .mk (.some 10) (.mv (.t 12)) .none 6 .none .false []
  .false, .mk (.some 13) (.ext (.t 10) 0) .none 7 .none .false [] .false, .mk (.some 14) (.ext (.t 10) 1) .none 8 .none .false [] .false, .mk (.some 5) (.alloc 78 [.int .i64 0,
  .slice .none 0 0, .slice .none 0 0, .slice .none 0 0, .slice .none 0 0, .slice .none 0 0, .slice .none 0 0, .int .u8 0, .int .i64 0, .int .i64 0, .int .u8 0, .bool .false, .bool
  .false, .bool .false, .bool .false, .bool .false, .bool .false, .bool .false, .bool .false, .bool .false, .bool .false, .bool .false, .bool .false, .bool .false, .bool .false,
  .bool .false, .bool .false, .bool .false, .bool .false, .bool .false, .bool .false, .bool .false, .bool .false, .bool .false, .bool .false, .bool .false, .bool .false, .bool
  .false, .bool .false, .bool .false, .bool .false, .bool .false, .bool .false, .bool .false, .bool .false, .bool .false, .bool .false, .bool .false, .bool .false, .bool .false,
  .bool .false, .slice .none 0 0, .slice .none 0 0, .slice .none 0 0, .slice .none 0 0, .slice .none 0 0, .slice .none 0 0, .slice .none 0 0, .slice .none 0 0, .slice .none 0 0,
  .slice .none 0 0, .slice .none 0 0, .slice .none 0 0, .slice .none 0 0, .slice .none 0 0, .slice .none 0 0, .slice .none 0 0, .slice .none 0 0, .slice .none 0 0, .slice .none 0 0,
  .slice .none 0 0, .slice .none 0 0, .slice .none 0 0, .slice .none 0 0, .slice .none 0 0, .slice .none 0 0, .slice .none 0 0, .slice .none 0 0, .slice .none 0 0, .slice .none 0 0,
  .slice .none 0 0, .slice .none 0 0, .slice .none 0 0, .slice .none 0 0, .slice .none 0 0, .slice .none 0 0, .slice .none 0 0, .slice .none 0 0, .slice .none 0 0, .slice .none 0 0,
  .slice .none 0 0]) .none 9 .none .false [] .false, .mk .none (.store 91 (.t 5) (.t 13)) .none 10 .none .false [] .false, .mk (.some 4) (.mv (.t 14)) .none 11 .none .false []
  .false]) (.seq (.seq (.reg 12 2 [.mk (.some 15) (.mv (.t 4)) .none 12 .none .false [] .false, .mk (.some 16) (.bin .neq (.t 15) (.k (.int .i64 0))) .none 13 .none .false []
  .false]) (.cond (.t 16) (.seq (.reg 14 6 [.mk (.some 17) (.bld [(0, 1), (1, 1)] [.int .i64 0, .int .i64 0] []) .none 14 .none .false [] .false, .mk (.some 18) (.bld [(0, 1), (1,
  1)] [.int .i64 0, .int .i64 0] []) .none 15 .none .false [] .false, .mk (.some 19) (.mv (.t 4)) .none 16 .none .false [] .false, .mk .none (.store 2 (.t 2) (.t 17)) .none 17 .none
  .false [] .false, .mk .none (.store 2 (.t 3) (.t 18)) .none 18 .none .false [] .false, .mk (.some 4) (.mv (.t 19)) .none 19 .none .false [] .false]) .ret) .skip)) (.seq (.reg 20 1
  [.mk (.some 6) (.alloc 66 [.int .i64 0, .int .i64 0]) .none 20 .none .false [] .false]) (.seq (.reg 21 2 [.mk (.some 7) (.alloc 4 [.bool .false]) .none 21 .none .false [] .false,
  .mk .none (.store 1 (.t 7) (.k (.bool .true))) .none 22 .none .false [] .false]) (.seq (.seq (.reg 23 2 [.mk (.some 20) (.load 91 .true (.t 5)) .none 23 .none .false [] .false,
  .mk (.some 21) (.call 40 [.t 20]) .none 24 .none .false [] .false]) (.block 0 (.range (.t 21) [22] (.reg 25 2 [.mk (.some 8) (.alloc 88 [.int .u8 0, .int .u8 0, .int .u8 0, .int
  .u8 0, .int .u8 0, .int .u8 0, .int .u8 0, .int .u8 0, .int .u8 0, .int .u8 0, .int .u8 0, .int .u8 0, .int .u8 0, .int .u8 0, .int .u8 0, .int .u8 0, .int .u8 0, .int .u8 0, .int
  .u8 0, .int .u8 0, .int .u8 0, .int .u8 0, .int .u8 0, .int .u8 0, .int .u8 0, .int .u8 0, .int .u8 0, .int .u8 0, .int .u8 0, .int .u8 0, .int .u8 0, .int .u8 0, .int .u8 0, .int
  .u8 0, .int .u8 0, .int .u8 0, .int .u8 0, .int .u8 0, .int .u8 0, .int .u8 0]) .none 25 .none .false [] .false, .mk .none (.store 40 (.t 8) (.t 22)) .none 26 .none .false []
  .false]) (.block 1 (.seq (.reg 27 5 [.mk (.some 23) (.load 91 .true (.t 5)) .none 27 .none .false [] .false, .mk (.some 24) (.load 40 .true (.t 8)) .none 28 .none .false []
  .false, .mk (.some 25) (.call 41 [.t 23, .t 24]) .none 29 .none .false [] .false, .mk (.some 9) (.alloc 66 [.int .i64 0, .int .i64 0]) .none 30 .none .false [] .false, .mk .none
  (.store 2 (.t 9) (.t 25)) .none 31 .none .false [] .false]) (.seq (.block 2 (.seq (.reg 32 2 [.mk (.some 27) (.load 1 .false (.t 7)) .none 32 .none .false [] .false, .mk (.some
  26) (.mv (.t 27)) .none 33 .none .false [] .false]) (.cond (.t 26) (.drawd 34 13 [] [] [] [.none, .some [9], .none, .some [9], .none, .none, .some [9], .none, .some [9], .none,
  .some [2], .some [3], .some [7]] [(0, .mk (.some 28) (.faddr 0 (.t 9)) .none 34 (.some []) .true [] .false), (1, .mk (.some 29) (.load 1 .false (.t 28)) .none 35 (.some []) .true
  [0] .false), (2, .mk (.some 30) (.faddr 0 (.t 9)) .none 36 (.some []) .true [] .false), (3, .mk (.some 31) (.load 1 .false (.t 30)) .none 37 (.some []) .true [2] .false), (4, .mk
  (.some 32) (.bld [(0, 1), (1, 1)] [.int .i64 0, .int .i64 0] [(0, .t 29), (1, .t 31)]) .none 38 (.some []) .true [2, 3, 0, 1] .false), (5, .mk (.some 33) (.faddr 1 (.t 9)) .none
  39 (.some []) .true [] .false), (6, .mk (.some 34) (.load 1 .false (.t 33)) .none 40 (.some []) .true [5] .false), (7, .mk (.some 35) (.faddr 1 (.t 9)) .none 41 (.some []) .true
  [] .false), (8, .mk (.some 36) (.load 1 .false (.t 35)) .none 42 (.some []) .true [7] .false), (9, .mk (.some 37) (.bld [(0, 1), (1, 1)] [.int .i64 0, .int .i64 0] [(0, .t 34),
  (1, .t 36)]) .none 43 (.some []) .true [7, 8, 5, 6] .false), (10, .mk .none (.store 2 (.t 2) (.t 32)) .none 44 (.some []) .true [1, 0, 3, 2, 4] .false), (11, .mk .none (.store 2
  (.t 3) (.t 37)) .none 45 (.some []) .true [4, 2, 3, 0, 1, 10, 6, 5, 8, 7, 9] .false), (12, .mk .none (.store 1 (.t 7) (.k (.bool .false))) .none 46 (.some []) .true [9, 7, 8, 5,
  6, 10, 1, 0, 3, 2, 4, 11] .false)]) (.seq (.reg 47 4 [.mk (.some 39) (.load 2 .true (.t 9)) .none 47 .none .false [] .false, .mk (.some 40) (.load 2 .true (.t 6)) .none 48 .none
  .false [] .false, .mk (.some 41) (.pur (.bin .neq 66) [.t 39, .t 40]) .none 49 .none .false [] .false, .mk (.some 38) (.mv (.t 41)) .none 50 .none .false [] .false]) (.cond (.t
  38) (.seq (.drawd 51 14 [] [] [42, 43] [.none, .some [2], .none, .some [9], .none, .none, .none, .some [2], .none, .some [9], .none, .none, .none, .some [2]] [(0, .mk (.some 42)
  (.faddr 0 (.t 2)) .none 51 (.some []) .true [] .false), (1, .mk (.some 43) (.load 1 .false (.t 42)) .none 52 (.some []) .true [0] .false), (2, .mk (.some 44) (.faddr 0 (.t 9))
  .none 53 (.some []) .true [] .false), (3, .mk (.some 45) (.load 1 .false (.t 44)) .none 54 (.some []) .true [2] .false), (4, .mk (.some 46) (.bslp 3 1 2 [.int .i64 0, .int .i64 0]
  [(0, .t 43), (1, .t 45)]) .none 55 (.some []) .true [2, 3, 0, 1] .false), (5, .mk (.some 47) (.call 42 [.t 46]) .none 56 (.some [55]) .false [1, 0, 3, 2, 4] .false), (6, .mk
  (.some 48) (.faddr 1 (.t 2)) .none 57 (.some []) .true [] .false), (7, .mk (.some 49) (.load 1 .false (.t 48)) .none 58 (.some []) .true [6] .false), (8, .mk (.some 50) (.faddr 0
  (.t 9)) .none 59 (.some []) .true [] .false), (9, .mk (.some 51) (.load 1 .false (.t 50)) .none 60 (.some []) .true [8] .false), (10, .mk (.some 52) (.bslp 3 1 2 [.int .i64 0,
  .int .i64 0] [(0, .t 49), (1, .t 51)]) .none 61 (.some []) .true [8, 9, 6, 7] .false), (11, .mk (.some 53) (.call 43 [.t 52]) .none 62 (.some [55, 56, 61]) .false [4, 2, 3, 0, 1,
  5, 7, 6, 9, 8, 10] .false), (12, .mk (.some 54) (.bld [(0, 1), (1, 1)] [.int .i64 0, .int .i64 0] [(0, .t 47), (1, .t 53)]) .none 63 (.some [61, 62, 55, 56]) .true [10, 8, 9, 6,
  7, 11, 4, 2, 3, 0, 1, 5] .false), (13, .mk .none (.store 2 (.t 2) (.t 54)) .none 64 (.some [56, 55, 62, 61]) .true [5, 1, 0, 3, 2, 4, 11, 7, 6, 9, 8, 10, 12] .false)]) (.drawd 65
  14 [] [] [42, 43] [.none, .some [3], .none, .some [9], .none, .none, .none, .some [3], .none, .some [9], .none, .none, .none, .some [3]] [(0, .mk (.some 55) (.faddr 0 (.t 3))
  .none 65 (.some []) .true [] .false), (1, .mk (.some 56) (.load 1 .false (.t 55)) .none 66 (.some []) .true [0] .false), (2, .mk (.some 57) (.faddr 1 (.t 9)) .none 67 (.some [])
  .true [] .false), (3, .mk (.some 58) (.load 1 .false (.t 57)) .none 68 (.some []) .true [2] .false), (4, .mk (.some 59) (.bslp 3 1 2 [.int .i64 0, .int .i64 0] [(0, .t 56), (1, .t
  58)]) .none 69 (.some []) .true [2, 3, 0, 1] .false), (5, .mk (.some 60) (.call 42 [.t 59]) .none 70 (.some [69]) .false [1, 0, 3, 2, 4] .false), (6, .mk (.some 61) (.faddr 1 (.t
  3)) .none 71 (.some []) .true [] .false), (7, .mk (.some 62) (.load 1 .false (.t 61)) .none 72 (.some []) .true [6] .false), (8, .mk (.some 63) (.faddr 1 (.t 9)) .none 73 (.some
  []) .true [] .false), (9, .mk (.some 64) (.load 1 .false (.t 63)) .none 74 (.some []) .true [8] .false), (10, .mk (.some 65) (.bslp 3 1 2 [.int .i64 0, .int .i64 0] [(0, .t 62),
  (1, .t 64)]) .none 75 (.some []) .true [8, 9, 6, 7] .false), (11, .mk (.some 66) (.call 43 [.t 65]) .none 76 (.some [69, 70, 75]) .false [4, 2, 3, 0, 1, 5, 7, 6, 9, 8, 10]
  .false), (12, .mk (.some 67) (.bld [(0, 1), (1, 1)] [.int .i64 0, .int .i64 0] [(0, .t 60), (1, .t 66)]) .none 77 (.some [75, 76, 69, 70]) .true [10, 8, 9, 6, 7, 11, 4, 2, 3, 0,
  1, 5] .false), (13, .mk .none (.store 2 (.t 3) (.t 67)) .none 78 (.some [70, 69, 76, 75]) .true [5, 1, 0, 3, 2, 4, 11, 7, 6, 9, 8, 10, 12] .false)])) .skip))))) (.reg 79 2 [.mk
  (.some 68) (.load 2 .true (.t 9)) .none 79 .none .false [] .false, .mk .none (.store 2 (.t 6) (.t 68)) .none 80 .none .false [] .false]))))))) (.seq (.drawd 81 5 [] [] [] [.some
  [2], .some [3], .some [2], .some [3], .none] [(0, .mk (.some 69) (.load 2 .true (.t 2)) .none 81 (.some []) .true [] .false), (1, .mk (.some 70) (.load 2 .true (.t 3)) .none 82
  (.some []) .true [] .false), (2, .mk .none (.store 2 (.t 2) (.t 69)) .none 83 (.some []) .true [0] .false), (3, .mk .none (.store 2 (.t 3) (.t 70)) .none 84 (.some []) .true [0,
  2, 1] .false), (4, .mk (.some 4) (.mv (.k (.int .i64 0))) .none 85 (.some []) .true [1, 2, 0, 3] .false)]) .ret))))))
def rs13 : List IRes := [.cell 2 2 .true, .cell 3 2 .true, .tmp 4]
set_option maxRecDepth 100000 in
theorem comp13 : Comp Try.prog 13 ir13 rs13 71 := ⟨⟨_, _, 86, Try.func13, rfl, by kernel_rfl, by kernel_rfl, rfl⟩⟩
theorem body13 : HasBody Try.prog 13 := hasBody_of (by kernel_rfl)

def ir23 : IC :=
  .seq (.reg 0 3 [.mk (.some 1) (.box 36 (.t 0)) .none 0 .none .false [] .false, .mk (.some 2) (.mv (.k (.slice .none 0 0))) .none 1 .none .false [] .false, .mk (.some 3) (.mv (.k
  (.int .i64 0))) .none 2 .none .false [] .false]) (.seq (.reg 3 8 [.mk (.some 10) (.load 11 .true (.t 1)) .none 3 .none .false [] .false, .mk (.some 11) (.call 39 [.t 10]) .none 4
  .none .false [] .false, .mk (.some 9) (.mv (.t 11)) .none 5 .none .false [] .false, .mk (.some 12) (.ext (.t 9) 0) .none 6 .none .false [] .false, .mk (.some 13) (.ext (.t 9) 1)
  .none 7 .none .false [] .false, .mk (.some 4) (.alloc 78 [.int .i64 0, .slice .none 0 0, .slice .none 0 0, .slice .none 0 0, .slice .none 0 0, .slice .none 0 0, .slice .none 0 0,
  .int .u8 0, .int .i64 0, .int .i64 0, .int .u8 0, .bool .false, .bool .false, .bool .false, .bool .false, .bool .false, .bool .false, .bool .false, .bool .false, .bool .false,
  .bool .false, .bool .false, .bool .false, .bool .false, .bool .false, .bool .false, .bool .false, .bool .false, .bool .false, .bool .false, .bool .false, .bool .false, .bool
  .false, .bool .false, .bool .false, .bool .false, .bool .false, .bool .false, .bool .false, .bool .false, .bool .false, .bool .false, .bool .false, .bool .false, .bool .false,
  .bool .false, .bool .false, .bool .false, .bool .false, .bool .false, .bool .false, .slice .none 0 0, .slice .none 0 0, .slice .none 0 0, .slice .none 0 0, .slice .none 0 0,
  .slice .none 0 0, .slice .none 0 0, .slice .none 0 0, .slice .none 0 0, .slice .none 0 0, .slice .none 0 0, .slice .none 0 0, .slice .none 0 0, .slice .none 0 0, .slice .none 0 0,
  .slice .none 0 0, .slice .none 0 0, .slice .none 0 0, .slice .none 0 0, .slice .none 0 0, .slice .none 0 0, .slice .none 0 0, .slice .none 0 0, .slice .none 0 0, .slice .none 0 0,
  .slice .none 0 0, .slice .none 0 0, .slice .none 0 0, .slice .none 0 0, .slice .none 0 0, .slice .none 0 0, .slice .none 0 0, .slice .none 0 0, .slice .none 0 0, .slice .none 0 0,
  .slice .none 0 0, .slice .none 0 0, .slice .none 0 0, .slice .none 0 0, .slice .none 0 0]) .none 8 .none .false [] .false, .mk .none (.store 91 (.t 4) (.t 12)) .none 9 .none
  .false [] .false, .mk (.some 5) (.mv (.t 13)) .none 10 .none .false [] .false]) (.seq (.seq (.reg 11 2 [.mk (.some 14) (.mv (.t 5)) .none 11 .none .false [] .false, .mk (.some 15)
  (.bin .neq (.t 14) (.k (.int .i64 0))) .none 12 .none .false [] .false]) (.cond (.t 15) (.seq (.reg 13 3 [.mk (.some 16) (.mv (.t 5)) .none 13 .none .false [] .false, .mk (.some
  2) (.mv (.k (.slice .none 0 0))) .none 14 .none .false [] .false, .mk (.some 3) (.mv (.t 16)) .none 15 .none .false [] .false]) .ret) .skip)) (.seq (.reg 16 1 [.mk (.some 6)
  (.alloc 50 [.slice .none 0 0]) .none 16 .none .false [] .false]) (.seq (.seq (.reg 17 2 [.mk (.some 17) (.load 91 .true (.t 4)) .none 17 .none .false [] .false, .mk (.some 18)
  (.call 40 [.t 17]) .none 18 .none .false [] .false]) (.block 0 (.range (.t 18) [19] (.reg 19 2 [.mk (.some 7) (.alloc 88 [.int .u8 0, .int .u8 0, .int .u8 0, .int .u8 0, .int .u8
  0, .int .u8 0, .int .u8 0, .int .u8 0, .int .u8 0, .int .u8 0, .int .u8 0, .int .u8 0, .int .u8 0, .int .u8 0, .int .u8 0, .int .u8 0, .int .u8 0, .int .u8 0, .int .u8 0, .int .u8
  0, .int .u8 0, .int .u8 0, .int .u8 0, .int .u8 0, .int .u8 0, .int .u8 0, .int .u8 0, .int .u8 0, .int .u8 0, .int .u8 0, .int .u8 0, .int .u8 0, .int .u8 0, .int .u8 0, .int .u8
  0, .int .u8 0, .int .u8 0, .int .u8 0, .int .u8 0, .int .u8 0]) .none 19 .none .false [] .false, .mk .none (.store 40 (.t 7) (.t 19)) .none 20 .none .false [] .false]) (.block 1
  (.seq (.draw 21 6 [7, 4] [] [.mk (.some 20) (.load 91 .true (.t 4)) .none 21 (.some []) .true [] .false, .mk (.some 21) (.load 91 .true (.t 4)) .none 22 (.some []) .true []
  .false, .mk (.some 22) (.load 40 .true (.t 7)) .none 23 (.some []) .true [] .false, .mk (.some 23) (.call 41 [.t 21, .t 22]) .none 24 (.some []) .true [] .false, .mk (.some 24)
  (.call 48 [.t 20, .t 23]) .none 25 (.some [24]) .false [] .false, .mk (.some 8) (.mv (.t 24)) .none 26 (.some [24, 25]) .true [] .false]) (.seq (.reg 27 4 [.mk (.some 25) (.load 1
  .false (.t 6)) .none 27 .none .false [] .false, .mk (.some 26) (.mv (.t 8)) .none 28 .none .false [] .false, .mk (.some 27) (.call 49 [.t 25, .t 26]) .none 29 .none .false []
  .false, .mk (.some 28) (.un .not (.t 27)) .none 30 .none .false [] .false]) (.cond (.t 28) (.reg 31 5 [.mk (.some 29) (.load 1 .false (.t 6)) .none 31 .none .false [] .false, .mk
  (.some 30) (.mv (.t 8)) .none 32 .none .false [] .false, .mk (.some 31) (.bsl 5 1 1 [.int .u8 0] [(0, .t 30)]) .none 33 .none .false [] .false, .mk (.some 32) (.app 5 1 1 (.t 29)
  (.t 31)) .none 34 .none .false [] .false, .mk .none (.store 1 (.t 6) (.t 32)) .none 35 .none .false [] .false]) .skip))))))) (.seq (.reg 36 2 [.mk (.some 33) (.load 1 .false (.t
  6)) .none 36 .none .false [] .false, .mk (.some 34) (.call 50 [.t 33]) .none 37 .none .false [] .false]) (.seq (.reg 38 3 [.mk (.some 35) (.load 1 .false (.t 6)) .none 38 .none
  .false [] .false, .mk (.some 2) (.mv (.t 35)) .none 39 .none .false [] .false, .mk (.some 3) (.mv (.k (.int .i64 0))) .none 40 .none .false [] .false]) .ret))))))
def rs23 : List IRes := [.tmp 2, .tmp 3]
set_option maxRecDepth 100000 in
theorem comp23 : Comp Try.prog 23 ir23 rs23 36 := ⟨⟨_, _, 41, Try.func23, rfl, by kernel_rfl, by kernel_rfl, rfl⟩⟩
theorem body23 : HasBody Try.prog 23 := hasBody_of (by kernel_rfl)

def ir24 : IC :=
  .seq (.reg 0 3 [.mk (.some 1) (.box 36 (.t 0)) .none 0 .none .false [] .false, .mk (.some 2) (.mv (.k (.slice .none 0 0))) .none 1 .none .false [] .false, .mk (.some 3) (.mv (.k
  (.int .i64 0))) .none 2 .none .false [] .false]) (.seq (.reg 3 8 [.mk (.some 12) (.load 11 .true (.t 1)) .none 3 .none .false [] .false, .mk (.some 13) (.call 39 [.t 12]) .none 4
  .none .false [] .false, .mk (.some 11) (.mv (.t 13)) .none 5 .none .false [] .false, .mk (.some 14) (.ext (.t 11) 0) .none 6 .none .false [] .false, .mk (.some 15) (.ext (.t 11)
  1) .none 7 .none .false [] .false, .mk (.some 4) (.alloc 78 [.int .i64 0, .slice .none 0 0, .slice .none 0 0, .slice .none 0 0, .slice .none 0 0, .slice .none 0 0, .slice .none 0
  0, .int .u8 0, .int .i64 0, .int .i64 0, .int .u8 0, .bool .false, .bool .false, .bool .false, .bool .false, .bool .false, .bool .false, .bool .false, .bool .false, .bool .false,
  .bool .false, .bool .false, .bool .false, .bool .false, .bool .false, .bool .false, .bool .false, .bool .false, .bool .false, .bool .false, .bool .false, .bool .false, .bool
  .false, .bool .false, .bool .false, .bool .false, .bool .false, .bool .false, .bool .false, .bool .false, .bool .false, .bool .false, .bool .false, .bool .false, .bool .false,
  .bool .false, .bool .false, .bool .false, .bool .false, .bool .false, .bool .false, .slice .none 0 0, .slice .none 0 0, .slice .none 0 0, .slice .none 0 0, .slice .none 0 0,
  .slice .none 0 0, .slice .none 0 0, .slice .none 0 0, .slice .none 0 0, .slice .none 0 0, .slice .none 0 0, .slice .none 0 0, .slice .none 0 0, .slice .none 0 0, .slice .none 0 0,
  .slice .none 0 0, .slice .none 0 0, .slice .none 0 0, .slice .none 0 0, .slice .none 0 0, .slice .none 0 0, .slice .none 0 0, .slice .none 0 0, .slice .none 0 0, .slice .none 0 0,
  .slice .none 0 0, .slice .none 0 0, .slice .none 0 0, .slice .none 0 0, .slice .none 0 0, .slice .none 0 0, .slice .none 0 0, .slice .none 0 0, .slice .none 0 0, .slice .none 0 0,
  .slice .none 0 0, .slice .none 0 0, .slice .none 0 0, .slice .none 0 0, .slice .none 0 0]) .none 8 .none .false [] .false, .mk .none (.store 91 (.t 4) (.t 14)) .none 9 .none
  .false [] .false, .mk (.some 5) (.mv (.t 15)) .none 10 .none .false [] .false]) (.seq (.seq (.reg 11 2 [.mk (.some 16) (.mv (.t 5)) .none 11 .none .false [] .false, .mk (.some 17)
  (.bin .neq (.t 16) (.k (.int .i64 0))) .none 12 .none .false [] .false]) (.cond (.t 17) (.seq (.reg 13 3 [.mk (.some 18) (.mv (.t 5)) .none 13 .none .false [] .false, .mk (.some
  2) (.mv (.k (.slice .none 0 0))) .none 14 .none .false [] .false, .mk (.some 3) (.mv (.t 18)) .none 15 .none .false [] .false]) .ret) .skip)) (.seq (.draw 16 8 [4] [] [.mk (.some
  19) (.load 91 .true (.t 4)) .none 16 (.some []) .true [] .false, .mk (.some 20) (.call 38 [.t 19]) .none 17 (.some []) .true [] .false, .mk (.some 21) (.load 91 .true (.t 4))
  .none 18 (.some []) .true [] .false, .mk (.some 22) (.call 51 [.t 21]) .none 19 (.some [17]) .false [] .false, .mk (.some 6) (.alloc 22 [.slice .none 0 0]) .none 20 (.some [])
  .true [] .false, .mk (.some 7) (.alloc 99 [.slice .none 0 0]) .none 21 (.some []) .true [] .false, .mk .none (.store 1 (.t 6) (.t 20)) .none 22 (.some [21, 19, 17, 20]) .true []
  .false, .mk .none (.store 1 (.t 7) (.t 22)) .none 23 (.some [20, 17, 19, 21]) .true [] .false]) (.seq (.reg 24 1 [.mk (.some 8) (.alloc 22 [.slice .none 0 0]) .none 24 .none
  .false [] .false]) (.seq (.reg 25 1 [.mk (.some 9) (.alloc 101 [.nilFunc]) .none 25 .none .false [] .false]) (.seq (.reg 26 2 [.mk (.some 23) (.mkf 52 [] [.t 8, .t 7, .t 6, .t 9])
  .none 26 .none .false [] .false, .mk .none (.store 1 (.t 9) (.t 23)) .none 27 .none .false [] .false]) (.seq (.seq (.reg 28 3 [.mk (.some 24) (.load 1 .false (.t 6)) .none 28
  .none .false [] .false, .mk (.some 25) (.len (.t 24)) .none 29 .none .false [] .false, .mk (.some 26) (.mv (.k (.int .i64 0))) .none 30 .none .false [] .false]) (.block 0 (.loop
  (.seq (.reg 31 1 [.mk (.some 27) (.bin .lss (.t 26) (.t 25)) .none 31 .none .false [] .false]) (.seq (.cond (.t 27) .skip (.exit 0)) (.seq (.block 1 (.seq (.reg 32 2 [.mk (.some
  28) (.mv (.t 26)) .none 32 .none .false [] .false, .mk (.some 10) (.mv (.t 28)) .none 33 .none .false [] .false]) (.seq (.reg 34 3 [.mk (.some 29) (.load 1 .false (.t 9)) .none 34
  .none .false [] .false, .mk (.some 30) (.mv (.t 10)) .none 35 .none .false [] .false, .mk (.some 31) (.callv (.t 29) [.k (.slice .none 0 0), .k (.int .i64 0), .t 30]) .none 36
  .none .false [] .false]) (.cond (.t 31) (.seq (.reg 37 3 [.mk (.some 32) (.load 1 .false (.t 8)) .none 37 .none .false [] .false, .mk (.some 2) (.mv (.t 32)) .none 38 .none .false
  [] .false, .mk (.some 3) (.mv (.k (.int .i64 0))) .none 39 .none .false [] .false]) .ret) .skip)))) (.reg 40 2 [.mk (.some 33) (.bin .add (.t 26) (.k (.int .i64 1))) .none 40
  .none .false [] .false, .mk (.some 26) (.mv (.t 33)) .none 41 .none .false [] .false]))))))) (.seq (.reg 42 3 [.mk (.some 34) (.load 1 .false (.t 6)) .none 42 .none .false []
  .false, .mk (.some 2) (.mv (.t 34)) .none 43 .none .false [] .false, .mk (.some 3) (.mv (.k (.int .i64 0))) .none 44 .none .false [] .false]) .ret))))))))
def rs24 : List IRes := [.tmp 2, .tmp 3]
set_option maxRecDepth 100000 in
theorem comp24 : Comp Try.prog 24 ir24 rs24 35 := ⟨⟨_, _, 45, Try.func24, rfl, by kernel_rfl, by kernel_rfl, rfl⟩⟩
theorem body24 : HasBody Try.prog 24 := hasBody_of (by kernel_rfl)

def ir52 : IC :=
  .seq (.reg 5 1 [.mk (.some 10) (.mv (.k (.bool .false))) .none 5 .none .false [] .false]) (.seq (.seq (.reg 6 2 [.mk (.some 12) (.mv (.t 2)) .none 6 .none .false [] .false, .mk
  (.some 13) (.bin .eql (.t 12) (.k (.int .i64 0))) .none 7 .none .false [] .false]) (.cond (.t 13) (.seq (.reg 8 3 [.mk (.some 14) (.mv (.t 0)) .none 8 .none .false [] .false, .mk
  (.some 15) (.call 53 [.t 14]) .none 9 .none .false [] .false, .mk .none (.store 1 (.t 3) (.t 15)) .none 10 .none .false [] .false]) (.seq (.reg 11 4 [.mk (.some 16) (.load 1
  .false (.t 4)) .none 11 .none .false [] .false, .mk (.some 17) (.mv (.t 0)) .none 12 .none .false [] .false, .mk (.some 18) (.call 54 [.t 16, .t 17]) .none 13 .none .false []
  .false, .mk (.some 10) (.mv (.t 18)) .none 14 .none .false [] .false]) .ret)) .skip)) (.seq (.seq (.reg 15 2 [.mk (.some 19) (.mv (.t 1)) .none 15 .none .false [] .false, .mk
  (.some 11) (.mv (.t 19)) .none 16 .none .false [] .false]) (.block 0 (.loop (.seq (.seq (.reg 17 4 [.mk (.some 20) (.mv (.t 11)) .none 17 .none .false [] .false, .mk (.some 21)
  (.load 1 .false (.t 5)) .none 18 .none .false [] .false, .mk (.some 22) (.len (.t 21)) .none 19 .none .false [] .false, .mk (.some 23) (.bin .lss (.t 20) (.t 22)) .none 20 .none
  .false [] .false]) (.cond (.t 23) .skip (.exit 0))) (.seq (.block 1 (.seq (.drawd 21 13 [] [] [] [.some [6], .none, .some [5], .none, .none, .none, .none, .some [0], .none, .none,
  .none, .none, .none] [(0, .mk (.some 26) (.load 1 .false (.t 6)) .none 21 (.some []) .true [] .false), (1, .mk (.some 27) (.mv (.t 0)) .none 22 (.some []) .true [] .false), (2,
  .mk (.some 28) (.load 1 .false (.t 5)) .none 23 (.some []) .true [] .false), (3, .mk (.some 29) (.mv (.t 11)) .none 24 (.some []) .true [] .false), (4, .mk (.some 30) (.iaddr 1
  (.t 28) (.t 29)) .none 25 (.some []) .true [3, 2] .false), (5, .mk (.some 31) (.load 1 .false (.t 30)) .none 26 (.some []) .true [2, 3, 4] .false), (6, .mk (.some 32) (.bsl 3 1 1
  [.int .i64 0] [(0, .t 31)]) .none 27 (.some []) .true [4, 3, 2, 5] .false), (7, .mk (.some 33) (.app 3 1 8 (.t 27) (.t 32)) .none 28 (.some [27]) .true [5, 2, 3, 4, 6, 1] .true),
  (8, .mk (.some 34) (.mv (.t 11)) .none 29 (.some []) .true [] .false), (9, .mk (.some 35) (.bin .add (.t 34) (.k (.int .i64 1))) .none 30 (.some []) .true [8] .false), (10, .mk
  (.some 36) (.mv (.t 2)) .none 31 (.some []) .true [] .false), (11, .mk (.some 37) (.bin .sub (.t 36) (.k (.int .i64 1))) .none 32 (.some []) .true [10] .false), (12, .mk (.some
  38) (.callv (.t 26) [.t 33, .t 35, .t 37]) .none 33 (.some [27, 28]) .true [10, 11, 8, 9, 1, 6, 4, 3, 2, 5, 7, 0] .false)]) (.cond (.t 38) (.seq (.reg 34 1 [.mk (.some 10) (.mv
  (.k (.bool .true))) .none 34 .none .false [] .false]) .ret) .skip))) (.reg 35 3 [.mk (.some 24) (.mv (.t 11)) .none 35 .none .false [] .false, .mk (.some 25) (.bin .add (.t 24)
  (.k (.int .i64 1))) .none 36 .none .false [] .false, .mk (.some 11) (.mv (.t 25)) .none 37 .none .false [] .false])))))) (.seq (.reg 38 1 [.mk (.some 10) (.mv (.k (.bool .false)))
  .none 38 .none .false [] .false]) .ret)))
def rs52 : List IRes := [.tmp 10]
set_option maxRecDepth 100000 in
theorem comp52 : CompAt Try.prog 52 5 ir52 rs52 39 := ⟨⟨_, _, 39, Try.func52, rfl, by kernel_rfl, by kernel_rfl, rfl⟩⟩
theorem body52 : HasBody Try.prog 52 := hasBody_of (by kernel_rfl)

def ir50 : IC :=
  .seq (.reg 1 3 [.mk (.some 3) (.mv (.t 0)) .none 1 .none .false [] .false, .mk (.some 4) (.len (.t 3)) .none 2 .none .false [] .false, .mk (.some 2) (.mv (.t 4)) .none 3 .none
  .false [] .false]) (.reg 4 6 [.mk (.some 5) (.mv (.t 0)) .none 4 .none .false [] .false, .mk (.some 6) (.mv (.t 2)) .none 5 .none .false [] .false, .mk (.some 7) (.mv (.t 2))
  .none 6 .none .false [] .false, .mk (.some 8) (.conv .u64 (.t 7)) .none 7 .none .false [] .false, .mk (.some 9) (.call 75 [.t 8]) .none 8 .none .false [] .false, .mk (.some 10)
  (.call 74 [.t 5, .k (.int .i64 0), .t 6, .t 9]) .none 9 .none .false [] .false])
def rs50 : List IRes := []
set_option maxRecDepth 100000 in
theorem comp50 : CompAt Try.prog 50 1 ir50 rs50 11 := ⟨⟨_, _, 10, Try.func50, rfl, by kernel_rfl, by kernel_rfl, rfl⟩⟩
theorem body50 : HasBody Try.prog 50 := hasBody_of (by kernel_rfl)

def ir74 : IC :=
  .seq (.reg 1 1 [.mk (.some 8) (.mv (.k (.bool .true))) .none 1 .none .false [] .false]) (.seq (.reg 2 1 [.mk (.some 9) (.mv (.k (.bool .true))) .none 2 .none .false [] .false])
  (.block 0 (.loop (.block 1 (.seq (.reg 3 4 [.mk (.some 19) (.mv (.t 2)) .none 3 .none .false [] .false, .mk (.some 20) (.mv (.t 1)) .none 4 .none .false [] .false, .mk (.some 21)
  (.bin .sub (.t 19) (.t 20)) .none 5 .none .false [] .false, .mk (.some 10) (.mv (.t 21)) .none 6 .none .false [] .false]) (.seq (.seq (.reg 7 2 [.mk (.some 22) (.mv (.t 10)) .none
  7 .none .false [] .false, .mk (.some 23) (.bin .leq (.t 22) (.k (.int .i64 12))) .none 8 .none .false [] .false]) (.cond (.t 23) (.seq (.reg 9 4 [.mk (.some 24) (.mv (.t 0)) .none
  9 .none .false [] .false, .mk (.some 25) (.mv (.t 1)) .none 10 .none .false [] .false, .mk (.some 26) (.mv (.t 2)) .none 11 .none .false [] .false, .mk (.some 27) (.call 90 [.t
  24, .t 25, .t 26]) .none 12 .none .false [] .false]) .ret) .skip)) (.seq (.seq (.reg 13 2 [.mk (.some 28) (.mv (.t 3)) .none 13 .none .false [] .false, .mk (.some 29) (.bin .eql
  (.t 28) (.k (.int .i64 0))) .none 14 .none .false [] .false]) (.cond (.t 29) (.seq (.reg 15 4 [.mk (.some 30) (.mv (.t 0)) .none 15 .none .false [] .false, .mk (.some 31) (.mv (.t
  1)) .none 16 .none .false [] .false, .mk (.some 32) (.mv (.t 2)) .none 17 .none .false [] .false, .mk (.some 33) (.call 91 [.t 30, .t 31, .t 32]) .none 18 .none .false [] .false])
  .ret) .skip)) (.seq (.seq (.reg 19 2 [.mk (.some 34) (.mv (.t 8)) .none 19 .none .false [] .false, .mk (.some 35) (.un .not (.t 34)) .none 20 .none .false [] .false]) (.cond (.t
  35) (.seq (.reg 21 4 [.mk (.some 36) (.mv (.t 0)) .none 21 .none .false [] .false, .mk (.some 37) (.mv (.t 1)) .none 22 .none .false [] .false, .mk (.some 38) (.mv (.t 2)) .none
  23 .none .false [] .false, .mk (.some 39) (.call 92 [.t 36, .t 37, .t 38]) .none 24 .none .false [] .false]) (.reg 25 3 [.mk (.some 40) (.mv (.t 3)) .none 25 .none .false []
  .false, .mk (.some 41) (.bin .sub (.t 40) (.k (.int .i64 1))) .none 26 .none .false [] .false, .mk (.some 3) (.mv (.t 41)) .none 27 .none .false [] .false])) .skip)) (.seq (.reg
  28 9 [.mk (.some 43) (.mv (.t 0)) .none 28 .none .false [] .false, .mk (.some 44) (.mv (.t 1)) .none 29 .none .false [] .false, .mk (.some 45) (.mv (.t 2)) .none 30 .none .false
  [] .false, .mk (.some 46) (.call 93 [.t 43, .t 44, .t 45]) .none 31 .none .false [] .false, .mk (.some 42) (.mv (.t 46)) .none 32 .none .false [] .false, .mk (.some 47) (.ext (.t
  42) 0) .none 33 .none .false [] .false, .mk (.some 48) (.ext (.t 42) 1) .none 34 .none .false [] .false, .mk (.some 11) (.mv (.t 47)) .none 35 .none .false [] .false, .mk (.some
  12) (.mv (.t 48)) .none 36 .none .false [] .false]) (.seq (.seq (.reg 37 2 [.mk (.some 49) (.mv (.t 12)) .none 37 .none .false [] .false, .mk (.some 50) (.bin .eql (.t 49) (.k
  (.int .i64 2))) .none 38 .none .false [] .false]) (.cond (.t 50) (.seq (.reg 39 4 [.mk (.some 51) (.mv (.t 0)) .none 39 .none .false [] .false, .mk (.some 52) (.mv (.t 1)) .none
  40 .none .false [] .false, .mk (.some 53) (.mv (.t 2)) .none 41 .none .false [] .false, .mk (.some 54) (.call 94 [.t 51, .t 52, .t 53]) .none 42 .none .false [] .false]) (.seq
  (.reg 43 7 [.mk (.some 55) (.mv (.t 2)) .none 43 .none .false [] .false, .mk (.some 56) (.bin .sub (.t 55) (.k (.int .i64 1))) .none 44 .none .false [] .false, .mk (.some 57) (.mv
  (.t 11)) .none 45 .none .false [] .false, .mk (.some 58) (.mv (.t 1)) .none 46 .none .false [] .false, .mk (.some 59) (.bin .sub (.t 57) (.t 58)) .none 47 .none .false [] .false,
  .mk (.some 60) (.bin .sub (.t 56) (.t 59)) .none 48 .none .false [] .false, .mk (.some 11) (.mv (.t 60)) .none 49 .none .false [] .false]) (.reg 50 1 [.mk (.some 12) (.mv (.k
  (.int .i64 1))) .none 50 .none .false [] .false]))) .skip)) (.seq (.seq (.reg 51 8 [.mk (.some 61) (.mv (.t 8)) .none 51 .none .false [] .false, .mk (.some 62) (.mv (.t 61)) .none
  52 .none .false [] .false, .mk (.some 63) (.mv (.t 9)) (.some (62, .true)) 53 .none .false [] .false, .mk (.some 64) (.pick (.t 62) (.t 63) (.k (.bool .false))) .none 54 .none
  .false [] .false, .mk (.some 65) (.mv (.t 64)) .none 55 .none .false [] .false, .mk (.some 66) (.mv (.t 12)) (.some (65, .true)) 56 .none .false [] .false, .mk (.some 67) (.bin
  .eql (.t 66) (.k (.int .i64 1))) (.some (65, .true)) 57 .none .false [] .false, .mk (.some 68) (.pick (.t 65) (.t 67) (.k (.bool .false))) .none 58 .none .false [] .false]) (.cond
  (.t 68) (.seq (.reg 59 4 [.mk (.some 69) (.mv (.t 0)) .none 59 .none .false [] .false, .mk (.some 70) (.mv (.t 1)) .none 60 .none .false [] .false, .mk (.some 71) (.mv (.t 2))
  .none 61 .none .false [] .false, .mk (.some 72) (.call 95 [.t 69, .t 70, .t 71]) .none 62 .none .false [] .false]) (.cond (.t 72) .ret .skip)) .skip)) (.seq (.seq (.draw 63 15 []
  [] [.mk (.some 73) (.mv (.t 1)) .none 63 (.some []) .true [] .false, .mk (.some 74) (.bin .gtr (.t 73) (.k (.int .i64 0))) .none 64 (.some []) .true [] .false, .mk (.some 75) (.mv
  (.t 74)) .none 65 (.some []) .true [] .false, .mk (.some 76) (.mv (.t 0)) (.some (75, .true)) 66 (.some []) .true [] .false, .mk (.some 77) (.mv (.t 1)) (.some (75, .true)) 67
  (.some []) .true [] .false, .mk (.some 78) (.bin .sub (.t 77) (.k (.int .i64 1))) (.some (75, .true)) 68 (.some []) .true [] .false, .mk (.some 79) (.iaddr 1 (.t 76) (.t 78))
  (.some (75, .true)) 69 (.some []) .true [] .false, .mk (.some 80) (.load 1 .false (.t 79)) (.some (75, .true)) 70 (.some []) .true [] .false, .mk (.some 81) (.mv (.t 0)) (.some
  (75, .true)) 71 (.some []) .true [] .false, .mk (.some 82) (.mv (.t 11)) (.some (75, .true)) 72 (.some []) .true [] .false, .mk (.some 83) (.iaddr 1 (.t 81) (.t 82)) (.some (75,
  .true)) 73 (.some []) .true [] .false, .mk (.some 84) (.load 1 .false (.t 83)) (.some (75, .true)) 74 (.some []) .true [] .false, .mk (.some 85) (.call 96 [.t 80, .t 84]) (.some
  (75, .true)) 75 (.some []) .true [] .false, .mk (.some 86) (.un .not (.t 85)) (.some (75, .true)) 76 (.some [75]) .true [] .false, .mk (.some 87) (.pick (.t 75) (.t 86) (.k (.bool
  .false))) .none 77 (.some [75]) .true [] .false]) (.cond (.t 87) (.seq (.reg 78 6 [.mk (.some 88) (.mv (.t 0)) .none 78 .none .false [] .false, .mk (.some 89) (.mv (.t 1)) .none
  79 .none .false [] .false, .mk (.some 90) (.mv (.t 2)) .none 80 .none .false [] .false, .mk (.some 91) (.mv (.t 11)) .none 81 .none .false [] .false, .mk (.some 92) (.call 97 [.t
  88, .t 89, .t 90, .t 91]) .none 82 .none .false [] .false, .mk (.some 13) (.mv (.t 92)) .none 83 .none .false [] .false]) (.seq (.reg 84 2 [.mk (.some 93) (.mv (.t 13)) .none 84
  .none .false [] .false, .mk (.some 1) (.mv (.t 93)) .none 85 .none .false [] .false]) (.exit 1))) .skip)) (.seq (.reg 86 10 [.mk (.some 95) (.mv (.t 0)) .none 86 .none .false []
  .false, .mk (.some 96) (.mv (.t 1)) .none 87 .none .false [] .false, .mk (.some 97) (.mv (.t 2)) .none 88 .none .false [] .false, .mk (.some 98) (.mv (.t 11)) .none 89 .none
  .false [] .false, .mk (.some 99) (.call 98 [.t 95, .t 96, .t 97, .t 98]) .none 90 .none .false [] .false, .mk (.some 94) (.mv (.t 99)) .none 91 .none .false [] .false, .mk (.some
  100) (.ext (.t 94) 0) .none 92 .none .false [] .false, .mk (.some 101) (.ext (.t 94) 1) .none 93 .none .false [] .false, .mk (.some 14) (.mv (.t 100)) .none 94 .none .false []
  .false, .mk (.some 15) (.mv (.t 101)) .none 95 .none .false [] .false]) (.seq (.reg 96 2 [.mk (.some 102) (.mv (.t 15)) .none 96 .none .false [] .false, .mk (.some 9) (.mv (.t
  102)) .none 97 .none .false [] .false]) (.seq (.reg 98 8 [.mk (.some 103) (.mv (.t 14)) .none 98 .none .false [] .false, .mk (.some 104) (.mv (.t 1)) .none 99 .none .false []
  .false, .mk (.some 105) (.bin .sub (.t 103) (.t 104)) .none 100 .none .false [] .false, .mk (.some 106) (.mv (.t 2)) .none 101 .none .false [] .false, .mk (.some 107) (.mv (.t
  14)) .none 102 .none .false [] .false, .mk (.some 108) (.bin .sub (.t 106) (.t 107)) .none 103 .none .false [] .false, .mk (.some 16) (.mv (.t 105)) .none 104 .none .false []
  .false, .mk (.some 17) (.mv (.t 108)) .none 105 .none .false [] .false]) (.seq (.reg 106 3 [.mk (.some 109) (.mv (.t 10)) .none 106 .none .false [] .false, .mk (.some 110) (.bin
  .quo (.t 109) (.k (.int .i64 8))) .none 107 .none .false [] .false, .mk (.some 18) (.mv (.t 110)) .none 108 .none .false [] .false]) (.seq (.reg 109 3 [.mk (.some 111) (.mv (.t
  16)) .none 109 .none .false [] .false, .mk (.some 112) (.mv (.t 17)) .none 110 .none .false [] .false, .mk (.some 113) (.bin .lss (.t 111) (.t 112)) .none 111 .none .false []
  .false]) (.cond (.t 113) (.seq (.reg 112 4 [.mk (.some 114) (.mv (.t 16)) .none 112 .none .false [] .false, .mk (.some 115) (.mv (.t 18)) .none 113 .none .false [] .false, .mk
  (.some 116) (.bin .geq (.t 114) (.t 115)) .none 114 .none .false [] .false, .mk (.some 8) (.mv (.t 116)) .none 115 .none .false [] .false]) (.seq (.reg 116 5 [.mk (.some 117) (.mv
  (.t 0)) .none 116 .none .false [] .false, .mk (.some 118) (.mv (.t 1)) .none 117 .none .false [] .false, .mk (.some 119) (.mv (.t 14)) .none 118 .none .false [] .false, .mk (.some
  120) (.mv (.t 3)) .none 119 .none .false [] .false, .mk (.some 121) (.call 74 [.t 117, .t 118, .t 119, .t 120]) .none 120 .none .false [] .false]) (.reg 121 3 [.mk (.some 122)
  (.mv (.t 14)) .none 121 .none .false [] .false, .mk (.some 123) (.bin .add (.t 122) (.k (.int .i64 1))) .none 122 .none .false [] .false, .mk (.some 1) (.mv (.t 123)) .none 123
  .none .false [] .false]))) (.seq (.reg 124 4 [.mk (.some 124) (.mv (.t 17)) .none 124 .none .false [] .false, .mk (.some 125) (.mv (.t 18)) .none 125 .none .false [] .false, .mk
  (.some 126) (.bin .geq (.t 124) (.t 125)) .none 126 .none .false [] .false, .mk (.some 8) (.mv (.t 126)) .none 127 .none .false [] .false]) (.seq (.reg 128 6 [.mk (.some 127) (.mv
  (.t 0)) .none 128 .none .false [] .false, .mk (.some 128) (.mv (.t 14)) .none 129 .none .false [] .false, .mk (.some 129) (.bin .add (.t 128) (.k (.int .i64 1))) .none 130 .none
  .false [] .false, .mk (.some 130) (.mv (.t 2)) .none 131 .none .false [] .false, .mk (.some 131) (.mv (.t 3)) .none 132 .none .false [] .false, .mk (.some 132) (.call 74 [.t 127,
  .t 129, .t 130, .t 131]) .none 133 .none .false [] .false]) (.reg 134 2 [.mk (.some 133) (.mv (.t 14)) .none 134 .none .false [] .false, .mk (.some 2) (.mv (.t 133)) .none 135
  .none .false [] .false])))))))))))))))))))))
def rs74 : List IRes := []
set_option maxRecDepth 100000 in
theorem comp74 : CompAt Try.prog 74 1 ir74 rs74 134 := ⟨⟨_, _, 136, Try.func74, rfl, by kernel_rfl, by kernel_rfl, rfl⟩⟩
theorem body74 : HasBody Try.prog 74 := hasBody_of (by kernel_rfl)

def ir90 : IC :=
  .seq (.reg 1 3 [.mk (.some 8) (.mv (.t 1)) .none 1 .none .false [] .false, .mk (.some 9) (.bin .add (.t 8) (.k (.int .i64 1))) .none 2 .none .false [] .false, .mk (.some 6) (.mv (.t
  9)) .none 3 .none .false [] .false]) (.block 0 (.loop (.seq (.seq (.reg 4 3 [.mk (.some 10) (.mv (.t 6)) .none 4 .none .false [] .false, .mk (.some 11) (.mv (.t 2)) .none 5 .none
  .false [] .false, .mk (.some 12) (.bin .lss (.t 10) (.t 11)) .none 6 .none .false [] .false]) (.cond (.t 12) .skip (.exit 0))) (.seq (.block 1 (.seq (.reg 7 2 [.mk (.some 15) (.mv
  (.t 6)) .none 7 .none .false [] .false, .mk (.some 7) (.mv (.t 15)) .none 8 .none .false [] .false]) (.block 2 (.loop (.seq (.seq (.draw 9 15 [] [] [.mk (.some 16) (.mv (.t 7))
  .none 9 (.some []) .true [] .false, .mk (.some 17) (.mv (.t 1)) .none 10 (.some []) .true [] .false, .mk (.some 18) (.bin .gtr (.t 16) (.t 17)) .none 11 (.some []) .true []
  .false, .mk (.some 19) (.mv (.t 18)) .none 12 (.some []) .true [] .false, .mk (.some 20) (.mv (.t 0)) (.some (19, .true)) 13 (.some []) .true [] .false, .mk (.some 21) (.mv (.t
  7)) (.some (19, .true)) 14 (.some []) .true [] .false, .mk (.some 22) (.iaddr 1 (.t 20) (.t 21)) (.some (19, .true)) 15 (.some []) .true [] .false, .mk (.some 23) (.load 1 .false
  (.t 22)) (.some (19, .true)) 16 (.some []) .true [] .false, .mk (.some 24) (.mv (.t 0)) (.some (19, .true)) 17 (.some []) .true [] .false, .mk (.some 25) (.mv (.t 7)) (.some (19,
  .true)) 18 (.some []) .true [] .false, .mk (.some 26) (.bin .sub (.t 25) (.k (.int .i64 1))) (.some (19, .true)) 19 (.some []) .true [] .false, .mk (.some 27) (.iaddr 1 (.t 24)
  (.t 26)) (.some (19, .true)) 20 (.some []) .true [] .false, .mk (.some 28) (.load 1 .false (.t 27)) (.some (19, .true)) 21 (.some []) .true [] .false, .mk (.some 29) (.call 96 [.t
  23, .t 28]) (.some (19, .true)) 22 (.some []) .true [] .false, .mk (.some 30) (.pick (.t 19) (.t 29) (.k (.bool .false))) .none 23 (.some [22]) .true [] .false]) (.cond (.t 30)
  .skip (.exit 2))) (.seq (.block 3 (.draw 24 18 [] [] [.mk (.some 33) (.mv (.t 0)) .none 24 (.some []) .true [] .false, .mk (.some 34) (.mv (.t 7)) .none 25 (.some []) .true []
  .false, .mk (.some 35) (.mv (.t 0)) .none 26 (.some []) .true [] .false, .mk (.some 36) (.mv (.t 7)) .none 27 (.some []) .true [] .false, .mk (.some 37) (.bin .sub (.t 36) (.k
  (.int .i64 1))) .none 28 (.some []) .true [] .false, .mk (.some 38) (.mv (.t 0)) .none 29 (.some []) .true [] .false, .mk (.some 39) (.mv (.t 7)) .none 30 (.some []) .true []
  .false, .mk (.some 40) (.bin .sub (.t 39) (.k (.int .i64 1))) .none 31 (.some []) .true [] .false, .mk (.some 41) (.iaddr 1 (.t 38) (.t 40)) .none 32 (.some []) .true [] .false,
  .mk (.some 42) (.load 1 .false (.t 41)) .none 33 (.some []) .true [] .false, .mk (.some 43) (.mv (.t 0)) .none 34 (.some []) .true [] .false, .mk (.some 44) (.mv (.t 7)) .none 35
  (.some []) .true [] .false, .mk (.some 45) (.iaddr 1 (.t 43) (.t 44)) .none 36 (.some []) .true [] .false, .mk (.some 46) (.load 1 .false (.t 45)) .none 37 (.some []) .true []
  .false, .mk (.some 47) (.iaddr 1 (.t 33) (.t 34)) .none 38 (.some []) .true [] .false, .mk .none (.store 1 (.t 47) (.t 42)) .none 39 (.some []) .true [] .false, .mk (.some 48)
  (.iaddr 1 (.t 35) (.t 37)) .none 40 (.some []) .true [] .false, .mk .none (.store 1 (.t 48) (.t 46)) .none 41 (.some []) .true [] .false])) (.reg 42 3 [.mk (.some 31) (.mv (.t 7))
  .none 42 .none .false [] .false, .mk (.some 32) (.bin .sub (.t 31) (.k (.int .i64 1))) .none 43 .none .false [] .false, .mk (.some 7) (.mv (.t 32)) .none 44 .none .false []
  .false]))))))) (.reg 45 3 [.mk (.some 13) (.mv (.t 6)) .none 45 .none .false [] .false, .mk (.some 14) (.bin .add (.t 13) (.k (.int .i64 1))) .none 46 .none .false [] .false, .mk
  (.some 6) (.mv (.t 14)) .none 47 .none .false [] .false])))))
def rs90 : List IRes := []
set_option maxRecDepth 100000 in
theorem comp90 : CompAt Try.prog 90 1 ir90 rs90 49 := ⟨⟨_, _, 48, Try.func90, rfl, by kernel_rfl, by kernel_rfl, rfl⟩⟩
theorem body90 : HasBody Try.prog 90 := hasBody_of (by kernel_rfl)

def ir35 : IC :=
  .seq (.reg 0 1 [.mk (.some 0) (.alloc 36 [.int .i64 0, .slice .none 0 0, .slice .none 0 0, .slice .none 0 0, .slice .none 0 0, .slice .none 0 0, .slice .none 0 0, .int .u8 0, .int
  .i64 0, .int .i64 0, .int .u8 0]) .none 0 .none .false [] .false]) (.seq (.reg 1 10 [.mk (.some 1) (.bsl 3 1 3 [.int .i64 0, .int .i64 0, .int .i64 0] [(0, .k (.int .i64 0)), (1,
  .k (.int .i64 1)), (2, .k (.int .i64 2))]) .none 1 .none .false [] .false, .mk (.some 2) (.bsl 3 1 3 [.int .i64 0, .int .i64 0, .int .i64 0] [(0, .k (.int .i64 0)), (1, .k (.int
  .i64 1)), (2, .k (.int .i64 3))]) .none 2 .none .false [] .false, .mk (.some 3) (.bld [(0, 1), (1, 1)] [.slice .none 0 0, .slice .none 0 0] [(0, .t 1), (1, .t 2)]) .none 3 .none
  .false [] .false, .mk (.some 4) (.bsl 3 1 2 [.int .i64 0, .int .i64 0] [(0, .k (.int .i64 4)), (1, .k (.int .i64 5))]) .none 4 .none .false [] .false, .mk (.some 5) (.bsl 3 1 2
  [.int .i64 0, .int .i64 0] [(0, .k (.int .i64 4)), (1, .k (.int .i64 5))]) .none 5 .none .false [] .false, .mk (.some 6) (.bld [(0, 1), (1, 1)] [.slice .none 0 0, .slice .none 0
  0] [(0, .t 4), (1, .t 5)]) .none 6 .none .false [] .false, .mk (.some 7) (.bld [(0, 1), (1, 1)] [.int .i64 0, .int .i64 0] [(0, .k (.int .i64 4)), (1, .k (.int .i64 3))]) .none 7
  .none .false [] .false, .mk (.some 8) (.bsl 73 2 1 [.int .i64 0, .int .i64 0] [(0, .t 7)]) .none 8 .none .false [] .false, .mk (.some 9) (.bld [(0, 1), (1, 2), (3, 2), (5, 1), (6,
  1), (7, 1), (8, 1), (9, 1), (10, 1)] [.int .i64 0, .slice .none 0 0, .slice .none 0 0, .slice .none 0 0, .slice .none 0 0, .slice .none 0 0, .slice .none 0 0, .int .u8 0, .int
  .i64 0, .int .i64 0, .int .u8 0] [(0, .k (.int .i64 6)), (1, .t 3), (2, .t 6), (4, .t 8), (7, .k (.int .i64 3)), (8, .k (.int .u8 2))]) .none 9 .none .false [] .false, .mk .none
  (.store 11 (.t 0) (.t 9)) .none 10 .none .false [] .false]) .ret)
def rs35 : List IRes := [.cell 0 11 .true]
set_option maxRecDepth 100000 in
theorem comp35 : Comp Try.prog 35 ir35 rs35 10 := ⟨⟨_, _, 11, Try.func35, rfl, by kernel_rfl, by kernel_rfl, rfl⟩⟩
theorem body35 : HasBody Try.prog 35 := hasBody_of (by kernel_rfl)

def ir10 : IC :=
  .seq (.reg 0 1 [.mk (.some 0) (.mv (.k (.bool .false))) .none 0 .none .false [] .false]) (.seq (.reg 1 7 [.mk (.some 11) (.call 35 []) .none 1 .none .false [] .false, .mk (.some 12)
  (.call 11 [.t 11]) .none 2 .none .false [] .false, .mk (.some 10) (.mv (.t 12)) .none 3 .none .false [] .false, .mk (.some 13) (.ext (.t 10) 0) .none 4 .none .false [] .false, .mk
  (.some 14) (.ext (.t 10) 1) .none 5 .none .false [] .false, .mk (.some 1) (.mv (.t 13)) .none 6 .none .false [] .false, .mk (.some 2) (.mv (.t 14)) .none 7 .none .false []
  .false]) (.seq (.reg 8 11 [.mk (.some 16) (.call 35 []) .none 8 .none .false [] .false, .mk (.some 17) (.call 13 [.t 16]) .none 9 .none .false [] .false, .mk (.some 15) (.mv (.t
  17)) .none 10 .none .false [] .false, .mk (.some 18) (.ext (.t 15) 0) .none 11 .none .false [] .false, .mk (.some 19) (.ext (.t 15) 1) .none 12 .none .false [] .false, .mk (.some
  20) (.ext (.t 15) 2) .none 13 .none .false [] .false, .mk (.some 3) (.alloc 39 [.int .i64 0, .int .i64 0]) .none 14 .none .false [] .false, .mk (.some 4) (.alloc 39 [.int .i64 0,
  .int .i64 0]) .none 15 .none .false [] .false, .mk .none (.store 2 (.t 3) (.t 18)) .none 16 .none .false [] .false, .mk .none (.store 2 (.t 4) (.t 19)) .none 17 .none .false []
  .false, .mk (.some 5) (.mv (.t 20)) .none 18 .none .false [] .false]) (.seq (.reg 19 7 [.mk (.some 22) (.call 35 []) .none 19 .none .false [] .false, .mk (.some 23) (.call 23 [.t
  22]) .none 20 .none .false [] .false, .mk (.some 21) (.mv (.t 23)) .none 21 .none .false [] .false, .mk (.some 24) (.ext (.t 21) 0) .none 22 .none .false [] .false, .mk (.some 25)
  (.ext (.t 21) 1) .none 23 .none .false [] .false, .mk (.some 6) (.mv (.t 24)) .none 24 .none .false [] .false, .mk (.some 7) (.mv (.t 25)) .none 25 .none .false [] .false]) (.seq
  (.reg 26 7 [.mk (.some 27) (.call 35 []) .none 26 .none .false [] .false, .mk (.some 28) (.call 24 [.t 27]) .none 27 .none .false [] .false, .mk (.some 26) (.mv (.t 28)) .none 28
  .none .false [] .false, .mk (.some 29) (.ext (.t 26) 0) .none 29 .none .false [] .false, .mk (.some 30) (.ext (.t 26) 1) .none 30 .none .false [] .false, .mk (.some 8) (.mv (.t
  29)) .none 31 .none .false [] .false, .mk (.some 9) (.mv (.t 30)) .none 32 .none .false [] .false]) (.seq (.reg 33 40 [.mk (.some 31) (.mv (.t 2)) .none 33 .none .false [] .false,
  .mk (.some 32) (.bin .eql (.t 31) (.k (.int .i64 0))) .none 34 .none .false [] .false, .mk (.some 33) (.mv (.t 32)) .none 35 .none .false [] .false, .mk (.some 34) (.mv (.t 5))
  (.some (33, .true)) 36 .none .false [] .false, .mk (.some 35) (.bin .eql (.t 34) (.k (.int .i64 0))) (.some (33, .true)) 37 .none .false [] .false, .mk (.some 36) (.pick (.t 33)
  (.t 35) (.k (.bool .false))) .none 38 .none .false [] .false, .mk (.some 37) (.mv (.t 36)) .none 39 .none .false [] .false, .mk (.some 38) (.mv (.t 7)) (.some (37, .true)) 40
  .none .false [] .false, .mk (.some 39) (.bin .eql (.t 38) (.k (.int .i64 0))) (.some (37, .true)) 41 .none .false [] .false, .mk (.some 40) (.pick (.t 37) (.t 39) (.k (.bool
  .false))) .none 42 .none .false [] .false, .mk (.some 41) (.mv (.t 40)) .none 43 .none .false [] .false, .mk (.some 42) (.mv (.t 9)) (.some (41, .true)) 44 .none .false [] .false,
  .mk (.some 43) (.bin .eql (.t 42) (.k (.int .i64 0))) (.some (41, .true)) 45 .none .false [] .false, .mk (.some 44) (.pick (.t 41) (.t 43) (.k (.bool .false))) .none 46 .none
  .false [] .false, .mk (.some 45) (.mv (.t 44)) .none 47 .none .false [] .false, .mk (.some 46) (.mv (.t 1)) (.some (45, .true)) 48 .none .false [] .false, .mk (.some 47) (.bsl 3 1
  2 [.int .i64 0, .int .i64 0] [(0, .k (.int .i64 2)), (1, .k (.int .i64 3))]) (.some (45, .true)) 49 .none .false [] .false, .mk (.some 48) (.call 15 [.t 46, .t 47]) (.some (45,
  .true)) 50 .none .false [] .false, .mk (.some 49) (.pick (.t 45) (.t 48) (.k (.bool .false))) .none 51 .none .false [] .false, .mk (.some 50) (.mv (.t 49)) .none 52 .none .false
  [] .false, .mk (.some 51) (.load 2 .true (.t 3)) (.some (50, .true)) 53 .none .false [] .false, .mk (.some 52) (.bld [(0, 1), (1, 1)] [.int .i64 0, .int .i64 0] [(0, .k (.int .i64
  2)), (1, .k (.int .i64 4))]) (.some (50, .true)) 54 .none .false [] .false, .mk (.some 53) (.pur (.bin .eql 39) [.t 51, .t 52]) (.some (50, .true)) 55 .none .false [] .false, .mk
  (.some 54) (.pick (.t 50) (.t 53) (.k (.bool .false))) .none 56 .none .false [] .false, .mk (.some 55) (.mv (.t 54)) .none 57 .none .false [] .false, .mk (.some 56) (.load 2 .true
  (.t 4)) (.some (55, .true)) 58 .none .false [] .false, .mk (.some 57) (.bld [(0, 1), (1, 1)] [.int .i64 0, .int .i64 0] [(0, .k (.int .i64 2)), (1, .k (.int .i64 3))]) (.some (55,
  .true)) 59 .none .false [] .false, .mk (.some 58) (.pur (.bin .eql 39) [.t 56, .t 57]) (.some (55, .true)) 60 .none .false [] .false, .mk (.some 59) (.pick (.t 55) (.t 58) (.k
  (.bool .false))) .none 61 .none .false [] .false, .mk (.some 60) (.mv (.t 59)) .none 62 .none .false [] .false, .mk (.some 61) (.mv (.t 6)) (.some (60, .true)) 63 .none .false []
  .false, .mk (.some 62) (.bsl 5 1 2 [.int .u8 0, .int .u8 0] [(0, .k (.int .u8 0)), (1, .k (.int .u8 1))]) (.some (60, .true)) 64 .none .false [] .false, .mk (.some 63) (.call 33
  [.t 61, .t 62]) (.some (60, .true)) 65 .none .false [] .false, .mk (.some 64) (.pick (.t 60) (.t 63) (.k (.bool .false))) .none 66 .none .false [] .false, .mk (.some 65) (.mv (.t
  64)) .none 67 .none .false [] .false, .mk (.some 66) (.mv (.t 8)) (.some (65, .true)) 68 .none .false [] .false, .mk (.some 67) (.bsl 3 1 1 [.int .i64 0] [(0, .k (.int .i64 3))])
  (.some (65, .true)) 69 .none .false [] .false, .mk (.some 68) (.call 15 [.t 66, .t 67]) (.some (65, .true)) 70 .none .false [] .false, .mk (.some 69) (.pick (.t 65) (.t 68) (.k
  (.bool .false))) .none 71 .none .false [] .false, .mk (.some 0) (.mv (.t 69)) .none 72 .none .false [] .false]) .ret)))))
def rs10 : List IRes := [.tmp 0]
set_option maxRecDepth 100000 in
theorem comp10 : Comp Try.prog 10 ir10 rs10 70 := ⟨⟨_, _, 73, Try.func10, rfl, by kernel_rfl, by kernel_rfl, rfl⟩⟩
theorem body10 : HasBody Try.prog 10 := hasBody_of (by kernel_rfl)

def ir26 : IC :=
  .seq (.reg 0 2 [.mk (.some 1) (.box 27 (.t 0)) .none 0 .none .false [] .false, .mk (.some 2) (.mv (.k (.bool .false))) .none 1 .none .false [] .false]) (.seq (.reg 2 8 [.mk (.some
  3) (.load 11 .true (.t 1)) .none 2 .none .false [] .false, .mk (.some 4) (.call 20 [.t 3]) .none 3 .none .false [] .false, .mk (.some 5) (.mv (.t 4)) .none 4 .none .false []
  .false, .mk (.some 6) (.load 11 .true (.t 1)) (.some (5, .true)) 5 .none .false [] .false, .mk (.some 7) (.call 17 [.t 6]) (.some (5, .true)) 6 .none .false [] .false, .mk (.some
  8) (.bin .eql (.t 7) (.k (.int .i64 0))) (.some (5, .true)) 7 .none .false [] .false, .mk (.some 9) (.pick (.t 5) (.t 8) (.k (.bool .false))) .none 8 .none .false [] .false, .mk
  (.some 2) (.mv (.t 9)) .none 9 .none .false [] .false]) .ret)
def rs26 : List IRes := [.tmp 2]
set_option maxRecDepth 100000 in
theorem comp26 : Comp Try.prog 26 ir26 rs26 10 := ⟨⟨_, _, 10, Try.func26, rfl, by kernel_rfl, by kernel_rfl, rfl⟩⟩
theorem body26 : HasBody Try.prog 26 := hasBody_of (by kernel_rfl)

def ir27 : IC :=
  .seq (.reg 0 1 [.mk (.some 6) (.mv (.k (.slice .none 0 0))) .none 0 .none .false [] .false]) (.seq (.reg 1 2 [.mk (.some 10) (.bsl 3 1 0 [] []) .none 1 .none .false [] .false, .mk
  (.some 7) (.mv (.t 10)) .none 2 .none .false [] .false]) (.seq (.seq (.reg 3 1 [.mk (.some 8) (.mv (.k (.int .i64 0))) .none 3 .none .false [] .false]) (.block 0 (.loop (.seq
  (.seq (.reg 4 4 [.mk (.some 11) (.mv (.t 8)) .none 4 .none .false [] .false, .mk (.some 12) (.mv (.t 0)) .none 5 .none .false [] .false, .mk (.some 13) (.len (.t 12)) .none 6
  .none .false [] .false, .mk (.some 14) (.bin .lss (.t 11) (.t 13)) .none 7 .none .false [] .false]) (.cond (.t 14) .skip (.exit 0))) (.seq (.block 1 (.seq (.reg 8 6 [.mk (.some
  17) (.mv (.t 0)) .none 8 .none .false [] .false, .mk (.some 18) (.mv (.t 8)) .none 9 .none .false [] .false, .mk (.some 19) (.iaddr 1 (.t 17) (.t 18)) .none 10 .none .false []
  .false, .mk (.some 20) (.load 1 .false (.t 19)) .none 11 .none .false [] .false, .mk (.some 21) (.mv (.t 1)) .none 12 .none .false [] .false, .mk (.some 22) (.bin .lss (.t 20) (.t
  21)) .none 13 .none .false [] .false]) (.cond (.t 22) (.reg 14 8 [.mk (.some 23) (.mv (.t 7)) .none 14 .none .false [] .false, .mk (.some 24) (.mv (.t 0)) .none 15 .none .false []
  .false, .mk (.some 25) (.mv (.t 8)) .none 16 .none .false [] .false, .mk (.some 26) (.iaddr 1 (.t 24) (.t 25)) .none 17 .none .false [] .false, .mk (.some 27) (.load 1 .false (.t
  26)) .none 18 .none .false [] .false, .mk (.some 28) (.bsl 3 1 1 [.int .i64 0] [(0, .t 27)]) .none 19 .none .false [] .false, .mk (.some 29) (.app 3 1 8 (.t 23) (.t 28)) .none 20
  .none .false [] .false, .mk (.some 7) (.mv (.t 29)) .none 21 .none .false [] .false]) .skip))) (.reg 22 3 [.mk (.some 15) (.mv (.t 8)) .none 22 .none .false [] .false, .mk (.some
  16) (.bin .add (.t 15) (.k (.int .i64 1))) .none 23 .none .false [] .false, .mk (.some 8) (.mv (.t 16)) .none 24 .none .false [] .false])))))) (.seq (.seq (.reg 25 1 [.mk (.some
  30) (.mv (.t 2)) .none 25 .none .false [] .false]) (.cond (.t 30) (.reg 26 5 [.mk (.some 31) (.mv (.t 7)) .none 26 .none .false [] .false, .mk (.some 32) (.mv (.t 1)) .none 27
  .none .false [] .false, .mk (.some 33) (.bsl 3 1 1 [.int .i64 0] [(0, .t 32)]) .none 28 .none .false [] .false, .mk (.some 34) (.app 3 1 8 (.t 31) (.t 33)) .none 29 .none .false
  [] .false, .mk (.some 7) (.mv (.t 34)) .none 30 .none .false [] .false]) .skip)) (.seq (.seq (.reg 31 1 [.mk (.some 9) (.mv (.k (.int .i64 0))) .none 31 .none .false [] .false])
  (.block 2 (.loop (.seq (.seq (.reg 32 4 [.mk (.some 35) (.mv (.t 9)) .none 32 .none .false [] .false, .mk (.some 36) (.mv (.t 0)) .none 33 .none .false [] .false, .mk (.some 37)
  (.len (.t 36)) .none 34 .none .false [] .false, .mk (.some 38) (.bin .lss (.t 35) (.t 37)) .none 35 .none .false [] .false]) (.cond (.t 38) .skip (.exit 2))) (.seq (.block 3 (.seq
  (.reg 36 6 [.mk (.some 41) (.mv (.t 0)) .none 36 .none .false [] .false, .mk (.some 42) (.mv (.t 9)) .none 37 .none .false [] .false, .mk (.some 43) (.iaddr 1 (.t 41) (.t 42))
  .none 38 .none .false [] .false, .mk (.some 44) (.load 1 .false (.t 43)) .none 39 .none .false [] .false, .mk (.some 45) (.mv (.t 1)) .none 40 .none .false [] .false, .mk (.some
  46) (.bin .gtr (.t 44) (.t 45)) .none 41 .none .false [] .false]) (.cond (.t 46) (.reg 42 8 [.mk (.some 47) (.mv (.t 7)) .none 42 .none .false [] .false, .mk (.some 48) (.mv (.t
  0)) .none 43 .none .false [] .false, .mk (.some 49) (.mv (.t 9)) .none 44 .none .false [] .false, .mk (.some 50) (.iaddr 1 (.t 48) (.t 49)) .none 45 .none .false [] .false, .mk
  (.some 51) (.load 1 .false (.t 50)) .none 46 .none .false [] .false, .mk (.some 52) (.bsl 3 1 1 [.int .i64 0] [(0, .t 51)]) .none 47 .none .false [] .false, .mk (.some 53) (.app 3
  1 8 (.t 47) (.t 52)) .none 48 .none .false [] .false, .mk (.some 7) (.mv (.t 53)) .none 49 .none .false [] .false]) .skip))) (.reg 50 3 [.mk (.some 39) (.mv (.t 9)) .none 50 .none
  .false [] .false, .mk (.some 40) (.bin .add (.t 39) (.k (.int .i64 1))) .none 51 .none .false [] .false, .mk (.some 9) (.mv (.t 40)) .none 52 .none .false [] .false])))))) (.seq
  (.reg 53 2 [.mk (.some 54) (.mv (.t 7)) .none 53 .none .false [] .false, .mk (.some 6) (.mv (.t 54)) .none 54 .none .false [] .false]) .ret)))))
def rs27 : List IRes := [.tmp 6]
set_option maxRecDepth 100000 in
theorem comp27 : Comp Try.prog 27 ir27 rs27 55 := ⟨⟨_, _, 55, Try.func27, rfl, by kernel_rfl, by kernel_rfl, rfl⟩⟩
theorem body27 : HasBody Try.prog 27 := hasBody_of (by kernel_rfl)

def ir75 : IC :=
  .seq (.reg 0 1 [.mk (.some 2) (.mv (.k (.int .i64 0))) .none 0 .none .false [] .false]) (.seq (.cond (.k (.bool .false)) (.seq (.reg 1 4 [.mk (.some 3) (.mv (.t 0)) .none 1 .none
  .false [] .false, .mk (.some 4) (.conv .u32 (.t 3)) .none 2 .none .false [] .false, .mk (.some 5) (.call 99 [.t 4]) .none 3 .none .false [] .false, .mk (.some 2) (.mv (.t 5))
  .none 4 .none .false [] .false]) .ret) .skip) (.seq (.reg 5 3 [.mk (.some 6) (.mv (.t 0)) .none 5 .none .false [] .false, .mk (.some 7) (.call 100 [.t 6]) .none 6 .none .false []
  .false, .mk (.some 2) (.mv (.t 7)) .none 7 .none .false [] .false]) .ret))
def rs75 : List IRes := [.tmp 2]
set_option maxRecDepth 100000 in
theorem comp75 : Comp Try.prog 75 ir75 rs75 8 := ⟨⟨_, _, 8, Try.func75, rfl, by kernel_rfl, by kernel_rfl, rfl⟩⟩
theorem body75 : HasBody Try.prog 75 := hasBody_of (by kernel_rfl)

def ir100 : IC :=
  .seq (.reg 0 1 [.mk (.some 2) (.mv (.k (.int .i64 0))) .none 0 .none .false [] .false]) (.seq (.seq (.reg 1 2 [.mk (.some 3) (.mv (.t 0)) .none 1 .none .false [] .false, .mk (.some
  4) (.bin .geq (.t 3) (.k (.int .u64 4294967296))) .none 2 .none .false [] .false]) (.cond (.t 4) (.seq (.reg 3 3 [.mk (.some 5) (.mv (.t 0)) .none 3 .none .false [] .false, .mk
  (.some 6) (.pur (.bin .shr 146) [.t 5, .k (.int .u64 32)]) .none 4 .none .false [] .false, .mk (.some 0) (.mv (.t 6)) .none 5 .none .false [] .false]) (.reg 6 1 [.mk (.some 2)
  (.mv (.k (.int .i64 32))) .none 6 .none .false [] .false])) .skip)) (.seq (.seq (.reg 7 2 [.mk (.some 7) (.mv (.t 0)) .none 7 .none .false [] .false, .mk (.some 8) (.bin .geq (.t
  7) (.k (.int .u64 65536))) .none 8 .none .false [] .false]) (.cond (.t 8) (.seq (.reg 9 3 [.mk (.some 9) (.mv (.t 0)) .none 9 .none .false [] .false, .mk (.some 10) (.pur (.bin
  .shr 146) [.t 9, .k (.int .u64 16)]) .none 10 .none .false [] .false, .mk (.some 0) (.mv (.t 10)) .none 11 .none .false [] .false]) (.reg 12 3 [.mk (.some 11) (.mv (.t 2)) .none
  12 .none .false [] .false, .mk (.some 12) (.bin .add (.t 11) (.k (.int .i64 16))) .none 13 .none .false [] .false, .mk (.some 2) (.mv (.t 12)) .none 14 .none .false [] .false]))
  .skip)) (.seq (.seq (.reg 15 2 [.mk (.some 13) (.mv (.t 0)) .none 15 .none .false [] .false, .mk (.some 14) (.bin .geq (.t 13) (.k (.int .u64 256))) .none 16 .none .false []
  .false]) (.cond (.t 14) (.seq (.reg 17 3 [.mk (.some 15) (.mv (.t 0)) .none 17 .none .false [] .false, .mk (.some 16) (.pur (.bin .shr 146) [.t 15, .k (.int .u64 8)]) .none 18
  .none .false [] .false, .mk (.some 0) (.mv (.t 16)) .none 19 .none .false [] .false]) (.reg 20 3 [.mk (.some 17) (.mv (.t 2)) .none 20 .none .false [] .false, .mk (.some 18) (.bin
  .add (.t 17) (.k (.int .i64 8))) .none 21 .none .false [] .false, .mk (.some 2) (.mv (.t 18)) .none 22 .none .false [] .false])) .skip)) (.seq (.reg 23 7 [.mk (.some 19) (.mv (.t
  2)) .none 23 .none .false [] .false, .mk (.some 20) (.mv (.t 0)) .none 24 .none .false [] .false, .mk (.some 21) (.conv .u8 (.t 20)) .none 25 .none .false [] .false, .mk (.some
  22) (.pur (.idx 9) [.k (.string (ByteArray.mk (Array.mk [0, 1, 2, 2, 3, 3, 3, 3, 4, 4, 4, 4, 4, 4, 4, 4, 5, 5, 5, 5, 5, 5, 5, 5, 5, 5, 5, 5, 5, 5, 5, 5, 6, 6, 6, 6, 6, 6, 6, 6, 6,
  6, 6, 6, 6, 6, 6, 6, 6, 6, 6, 6, 6, 6, 6, 6, 6, 6, 6, 6, 6, 6, 6, 6, 7, 7, 7, 7, 7, 7, 7, 7, 7, 7, 7, 7, 7, 7, 7, 7, 7, 7, 7, 7, 7, 7, 7, 7, 7, 7, 7, 7, 7, 7, 7, 7, 7, 7, 7, 7, 7,
  7, 7, 7, 7, 7, 7, 7, 7, 7, 7, 7, 7, 7, 7, 7, 7, 7, 7, 7, 7, 7, 7, 7, 7, 7, 7, 7, 8, 8, 8, 8, 8, 8, 8, 8, 8, 8, 8, 8, 8, 8, 8, 8, 8, 8, 8, 8, 8, 8, 8, 8, 8, 8, 8, 8, 8, 8, 8, 8, 8,
  8, 8, 8, 8, 8, 8, 8, 8, 8, 8, 8, 8, 8, 8, 8, 8, 8, 8, 8, 8, 8, 8, 8, 8, 8, 8, 8, 8, 8, 8, 8, 8, 8, 8, 8, 8, 8, 8, 8, 8, 8, 8, 8, 8, 8, 8, 8, 8, 8, 8, 8, 8, 8, 8, 8, 8, 8, 8, 8, 8,
  8, 8, 8, 8, 8, 8, 8, 8, 8, 8, 8, 8, 8, 8, 8, 8, 8, 8, 8, 8, 8, 8, 8, 8, 8, 8, 8, 8, 8, 8, 8, 8, 8, 8, 8]))), .t 21]) .none 26 .none .false [] .false, .mk (.some 23) (.conv .i64
  (.t 22)) .none 27 .none .false [] .false, .mk (.some 24) (.bin .add (.t 19) (.t 23)) .none 28 .none .false [] .false, .mk (.some 2) (.mv (.t 24)) .none 29 .none .false [] .false])
  .ret))))
def rs100 : List IRes := [.tmp 2]
set_option maxRecDepth 100000 in
theorem comp100 : Comp Try.prog 100 ir100 rs100 25 := ⟨⟨_, _, 30, Try.func100, rfl, by kernel_rfl, by kernel_rfl, rfl⟩⟩
theorem body100 : HasBody Try.prog 100 := hasBody_of (by kernel_rfl)

def ir114 : IC :=
  .seq (.reg 0 1 [.mk (.some 2) (.mv (.k (.bool .false))) .none 0 .none .false [] .false]) (.seq (.reg 1 4 [.mk (.some 3) (.mv (.t 0)) .none 1 .none .false [] .false, .mk (.some 4)
  (.mv (.t 0)) .none 2 .none .false [] .false, .mk (.some 5) (.bin .neq (.t 3) (.t 4)) .none 3 .none .false [] .false, .mk (.some 2) (.mv (.t 5)) .none 4 .none .false [] .false])
  .ret)
def rs114 : List IRes := [.tmp 2]
set_option maxRecDepth 100000 in
theorem comp114 : Comp Try.prog 114 ir114 rs114 6 := ⟨⟨_, _, 5, Try.func114, rfl, by kernel_rfl, by kernel_rfl, rfl⟩⟩
theorem body114 : HasBody Try.prog 114 := hasBody_of (by kernel_rfl)

end Go.Proofs.Ytgpfejgohclheaa

namespace Go.Proofs.Ytgpfejgohclheaa
open Go.Pal
def ir5 : IC :=
  .seq (.reg 0 2 [.mk (.some 4) (.box 27 (.t 0)) .none 0 .none .false [] .false, .mk (.some 8) (.mv (.k (.bool .false))) .none 1 .none .false [] .false]) (.seq (.seq (.reg 2 3 [.mk
  (.some 27) (.load 11 .true (.t 4)) .none 2 .none .false [] .false, .mk (.some 28) (.call 26 [.t 27]) .none 3 .none .false [] .false, .mk (.some 29) (.un .not (.t 28)) .none 4
  .none .false [] .false]) (.cond (.t 29) (.seq (.reg 5 2 [.mk (.some 30) (.call 10 []) .none 5 .none .false [] .false, .mk (.some 8) (.mv (.t 30)) .none 6 .none .false [] .false])
  .ret) .skip)) (.seq (.draw 7 10 [] [] [.mk (.some 31) (.mv (.t 2)) .none 7 (.some []) .true [] .false, .mk (.some 32) (.conv .i64 (.t 31)) .none 8 (.some []) .true [] .false, .mk
  (.some 33) (.bin .rem (.t 32) (.k (.int .i64 2))) .none 9 (.some []) .true [] .false, .mk (.some 34) (.mv (.t 3)) .none 10 (.some []) .true [] .false, .mk (.some 35) (.conv .i64
  (.t 34)) .none 11 (.some []) .true [] .false, .mk (.some 36) (.faddr 0 (.t 4)) .none 12 (.some []) .true [] .false, .mk (.some 37) (.load 1 .false (.t 36)) .none 13 (.some [])
  .true [] .false, .mk (.some 38) (.bin .rem (.t 35) (.t 37)) .none 14 (.some []) .true [] .false, .mk (.some 9) (.mv (.t 33)) .none 15 (.some []) .true [] .false, .mk (.some 10)
  (.mv (.t 38)) .none 16 (.some []) .true [] .false]) (.seq (.reg 17 4 [.mk (.some 39) (.load 11 .true (.t 4)) .none 17 .none .false [] .false, .mk (.some 40) (.call 12 [.t 39])
  .none 18 .none .false [] .false, .mk (.some 11) (.alloc 36 [.int .i64 0, .slice .none 0 0, .slice .none 0 0, .slice .none 0 0, .slice .none 0 0, .slice .none 0 0, .slice .none 0
  0, .int .u8 0, .int .i64 0, .int .i64 0, .int .u8 0]) .none 19 .none .false [] .false, .mk .none (.store 11 (.t 11) (.t 40)) .none 20 .none .false [] .false]) (.seq (.seq (.reg 21
  1 [.mk (.some 41) (.mv (.t 1)) .none 21 .none .false [] .false]) (.cond (.t 41) (.draw 22 17 [10] [] [.mk (.some 42) (.mv (.t 9)) .none 22 (.some []) .true [] .false, .mk (.some
  43) (.mv (.t 9)) .none 23 (.some []) .true [] .false, .mk (.some 44) (.faddr 1 (.t 11)) .none 24 (.some []) .true [] .false, .mk (.some 45) (.aaddr 1 2 (.t 44) (.t 43)) .none 25
  (.some []) .true [] .false, .mk (.some 46) (.load 1 .false (.t 45)) .none 26 (.some []) .true [] .false, .mk (.some 47) (.mv (.t 10)) .none 27 (.some []) .true [] .false, .mk
  (.some 48) (.mv (.t 9)) .none 28 (.some []) .true [] .false, .mk (.some 49) (.bin .sub (.k (.int .i64 1)) (.t 48)) .none 29 (.some []) .true [] .false, .mk (.some 50) (.faddr 1
  (.t 4)) .none 30 (.some []) .true [] .false, .mk (.some 51) (.aaddr 1 2 (.t 50) (.t 49)) .none 31 (.some []) .true [] .false, .mk (.some 52) (.load 1 .false (.t 51)) .none 32
  (.some []) .true [] .false, .mk (.some 53) (.mv (.t 10)) .none 33 (.some []) .true [] .false, .mk (.some 54) (.call 28 [.t 52, .t 53]) .none 34 (.some []) .true [] .false, .mk
  (.some 55) (.call 27 [.t 46, .t 47, .t 54]) .none 35 (.some [34]) .false [] .false, .mk (.some 56) (.faddr 1 (.t 11)) .none 36 (.some []) .true [] .false, .mk (.some 57) (.aaddr 1
  2 (.t 56) (.t 42)) .none 37 (.some [35, 34]) .true [] .false, .mk .none (.store 1 (.t 57) (.t 55)) .none 38 (.some [34, 35]) .true [] .false]) (.draw 39 17 [10] [] [.mk (.some 58)
  (.mv (.t 9)) .none 39 (.some []) .true [] .false, .mk (.some 59) (.mv (.t 9)) .none 40 (.some []) .true [] .false, .mk (.some 60) (.faddr 3 (.t 11)) .none 41 (.some []) .true []
  .false, .mk (.some 61) (.aaddr 1 2 (.t 60) (.t 59)) .none 42 (.some []) .true [] .false, .mk (.some 62) (.load 1 .false (.t 61)) .none 43 (.some []) .true [] .false, .mk (.some
  63) (.mv (.t 10)) .none 44 (.some []) .true [] .false, .mk (.some 64) (.mv (.t 9)) .none 45 (.some []) .true [] .false, .mk (.some 65) (.bin .sub (.k (.int .i64 1)) (.t 64)) .none
  46 (.some []) .true [] .false, .mk (.some 66) (.faddr 3 (.t 4)) .none 47 (.some []) .true [] .false, .mk (.some 67) (.aaddr 1 2 (.t 66) (.t 65)) .none 48 (.some []) .true []
  .false, .mk (.some 68) (.load 1 .false (.t 67)) .none 49 (.some []) .true [] .false, .mk (.some 69) (.mv (.t 10)) .none 50 (.some []) .true [] .false, .mk (.some 70) (.call 28 [.t
  68, .t 69]) .none 51 (.some []) .true [] .false, .mk (.some 71) (.call 27 [.t 62, .t 63, .t 70]) .none 52 (.some [51]) .false [] .false, .mk (.some 72) (.faddr 3 (.t 11)) .none 53
  (.some []) .true [] .false, .mk (.some 73) (.aaddr 1 2 (.t 72) (.t 58)) .none 54 (.some [52, 51]) .true [] .false, .mk .none (.store 1 (.t 73) (.t 71)) .none 55 (.some [51, 52])
  .true [] .false]))) (.seq (.reg 56 12 [.mk (.some 75) (.load 11 .true (.t 4)) .none 56 .none .false [] .false, .mk (.some 76) (.call 12 [.t 75]) .none 57 .none .false [] .false,
  .mk (.some 77) (.call 13 [.t 76]) .none 58 .none .false [] .false, .mk (.some 74) (.mv (.t 77)) .none 59 .none .false [] .false, .mk (.some 78) (.ext (.t 74) 0) .none 60 .none
  .false [] .false, .mk (.some 79) (.ext (.t 74) 1) .none 61 .none .false [] .false, .mk (.some 80) (.ext (.t 74) 2) .none 62 .none .false [] .false, .mk (.some 12) (.alloc 39 [.int
  .i64 0, .int .i64 0]) .none 63 .none .false [] .false, .mk (.some 13) (.alloc 39 [.int .i64 0, .int .i64 0]) .none 64 .none .false [] .false, .mk .none (.store 2 (.t 12) (.t 78))
  .none 65 .none .false [] .false, .mk .none (.store 2 (.t 13) (.t 79)) .none 66 .none .false [] .false, .mk (.some 14) (.mv (.t 80)) .none 67 .none .false [] .false]) (.seq (.reg
  68 8 [.mk (.some 82) (.load 11 .true (.t 4)) .none 68 .none .false [] .false, .mk (.some 83) (.call 12 [.t 82]) .none 69 .none .false [] .false, .mk (.some 84) (.call 23 [.t 83])
  .none 70 .none .false [] .false, .mk (.some 81) (.mv (.t 84)) .none 71 .none .false [] .false, .mk (.some 85) (.ext (.t 81) 0) .none 72 .none .false [] .false, .mk (.some 86)
  (.ext (.t 81) 1) .none 73 .none .false [] .false, .mk (.some 15) (.mv (.t 85)) .none 74 .none .false [] .false, .mk (.some 16) (.mv (.t 86)) .none 75 .none .false [] .false])
  (.seq (.reg 76 11 [.mk (.some 88) (.load 11 .true (.t 11)) .none 76 .none .false [] .false, .mk (.some 89) (.call 13 [.t 88]) .none 77 .none .false [] .false, .mk (.some 87) (.mv
  (.t 89)) .none 78 .none .false [] .false, .mk (.some 90) (.ext (.t 87) 0) .none 79 .none .false [] .false, .mk (.some 91) (.ext (.t 87) 1) .none 80 .none .false [] .false, .mk
  (.some 92) (.ext (.t 87) 2) .none 81 .none .false [] .false, .mk (.some 17) (.alloc 39 [.int .i64 0, .int .i64 0]) .none 82 .none .false [] .false, .mk (.some 18) (.alloc 39 [.int
  .i64 0, .int .i64 0]) .none 83 .none .false [] .false, .mk .none (.store 2 (.t 17) (.t 90)) .none 84 .none .false [] .false, .mk .none (.store 2 (.t 18) (.t 91)) .none 85 .none
  .false [] .false, .mk (.some 19) (.mv (.t 92)) .none 86 .none .false [] .false]) (.seq (.seq (.reg 87 6 [.mk (.some 93) (.mv (.t 14)) .none 87 .none .false [] .false, .mk (.some
  94) (.bin .neq (.t 93) (.k (.int .i64 0))) .none 88 .none .false [] .false, .mk (.some 95) (.mv (.t 94)) .none 89 .none .false [] .false, .mk (.some 96) (.mv (.t 16)) (.some (95,
  .false)) 90 .none .false [] .false, .mk (.some 97) (.bin .neq (.t 96) (.k (.int .i64 0))) (.some (95, .false)) 91 .none .false [] .false, .mk (.some 98) (.pick (.t 95) (.k (.bool
  .true)) (.t 97)) .none 92 .none .false [] .false]) (.cond (.t 98) (.seq (.reg 93 1 [.mk (.some 8) (.mv (.k (.bool .false))) .none 93 .none .false [] .false]) .ret) .skip)) (.seq
  (.seq (.reg 94 2 [.mk (.some 99) (.mv (.t 19)) .none 94 .none .false [] .false, .mk (.some 100) (.bin .neq (.t 99) (.k (.int .i64 0))) .none 95 .none .false [] .false]) (.cond (.t
  100) (.seq (.reg 96 7 [.mk (.some 102) (.load 11 .true (.t 11)) .none 96 .none .false [] .false, .mk (.some 103) (.call 25 [.t 102]) .none 97 .none .false [] .false, .mk (.some
  101) (.mv (.t 103)) .none 98 .none .false [] .false, .mk (.some 104) (.ext (.t 101) 0) .none 99 .none .false [] .false, .mk (.some 105) (.ext (.t 101) 1) .none 100 .none .false []
  .false, .mk (.some 20) (.mv (.t 104)) .none 101 .none .false [] .false, .mk (.some 21) (.mv (.t 105)) .none 102 .none .false [] .false]) (.seq (.reg 103 10 [.mk (.some 106) (.mv
  (.t 19)) .none 103 .none .false [] .false, .mk (.some 107) (.bin .eql (.t 106) (.k (.int .i64 9))) .none 104 .none .false [] .false, .mk (.some 108) (.mv (.t 107)) .none 105 .none
  .false [] .false, .mk (.some 109) (.mv (.t 21)) (.some (108, .true)) 106 .none .false [] .false, .mk (.some 110) (.bin .eql (.t 109) (.k (.int .i64 0))) (.some (108, .true)) 107
  .none .false [] .false, .mk (.some 111) (.pick (.t 108) (.t 110) (.k (.bool .false))) .none 108 .none .false [] .false, .mk (.some 112) (.mv (.t 111)) .none 109 .none .false []
  .false, .mk (.some 113) (.call 10 []) (.some (112, .true)) 110 .none .false [] .false, .mk (.some 114) (.pick (.t 112) (.t 113) (.k (.bool .false))) .none 111 .none .false []
  .false, .mk (.some 8) (.mv (.t 114)) .none 112 .none .false [] .false]) .ret)) .skip)) (.seq (.reg 113 7 [.mk (.some 116) (.load 11 .true (.t 11)) .none 113 .none .false []
  .false, .mk (.some 117) (.call 23 [.t 116]) .none 114 .none .false [] .false, .mk (.some 115) (.mv (.t 117)) .none 115 .none .false [] .false, .mk (.some 118) (.ext (.t 115) 0)
  .none 116 .none .false [] .false, .mk (.some 119) (.ext (.t 115) 1) .none 117 .none .false [] .false, .mk (.some 22) (.mv (.t 118)) .none 118 .none .false [] .false, .mk (.some
  23) (.mv (.t 119)) .none 119 .none .false [] .false]) (.seq (.seq (.reg 120 30 [.mk (.some 120) (.mv (.t 23)) .none 120 .none .false [] .false, .mk (.some 121) (.bin .neq (.t 120)
  (.k (.int .i64 0))) .none 121 .none .false [] .false, .mk (.some 122) (.mv (.t 121)) .none 122 .none .false [] .false, .mk (.some 123) (.faddr 0 (.t 17)) (.some (122, .false)) 123
  .none .false [] .false, .mk (.some 124) (.load 1 .false (.t 123)) (.some (122, .false)) 124 .none .false [] .false, .mk (.some 125) (.faddr 0 (.t 12)) (.some (122, .false)) 125
  .none .false [] .false, .mk (.some 126) (.load 1 .false (.t 125)) (.some (122, .false)) 126 .none .false [] .false, .mk (.some 127) (.bin .lss (.t 124) (.t 126)) (.some (122,
  .false)) 127 .none .false [] .false, .mk (.some 128) (.pick (.t 122) (.k (.bool .true)) (.t 127)) .none 128 .none .false [] .false, .mk (.some 129) (.mv (.t 128)) .none 129 .none
  .false [] .false, .mk (.some 130) (.faddr 1 (.t 17)) (.some (129, .false)) 130 .none .false [] .false, .mk (.some 131) (.load 1 .false (.t 130)) (.some (129, .false)) 131 .none
  .false [] .false, .mk (.some 132) (.faddr 1 (.t 12)) (.some (129, .false)) 132 .none .false [] .false, .mk (.some 133) (.load 1 .false (.t 132)) (.some (129, .false)) 133 .none
  .false [] .false, .mk (.some 134) (.bin .gtr (.t 131) (.t 133)) (.some (129, .false)) 134 .none .false [] .false, .mk (.some 135) (.pick (.t 129) (.k (.bool .true)) (.t 134))
  .none 135 .none .false [] .false, .mk (.some 136) (.mv (.t 135)) .none 136 .none .false [] .false, .mk (.some 137) (.faddr 0 (.t 18)) (.some (136, .false)) 137 .none .false []
  .false, .mk (.some 138) (.load 1 .false (.t 137)) (.some (136, .false)) 138 .none .false [] .false, .mk (.some 139) (.faddr 0 (.t 13)) (.some (136, .false)) 139 .none .false []
  .false, .mk (.some 140) (.load 1 .false (.t 139)) (.some (136, .false)) 140 .none .false [] .false, .mk (.some 141) (.bin .lss (.t 138) (.t 140)) (.some (136, .false)) 141 .none
  .false [] .false, .mk (.some 142) (.pick (.t 136) (.k (.bool .true)) (.t 141)) .none 142 .none .false [] .false, .mk (.some 143) (.mv (.t 142)) .none 143 .none .false [] .false,
  .mk (.some 144) (.faddr 1 (.t 18)) (.some (143, .false)) 144 .none .false [] .false, .mk (.some 145) (.load 1 .false (.t 144)) (.some (143, .false)) 145 .none .false [] .false,
  .mk (.some 146) (.faddr 1 (.t 13)) (.some (143, .false)) 146 .none .false [] .false, .mk (.some 147) (.load 1 .false (.t 146)) (.some (143, .false)) 147 .none .false [] .false,
  .mk (.some 148) (.bin .gtr (.t 145) (.t 147)) (.some (143, .false)) 148 .none .false [] .false, .mk (.some 149) (.pick (.t 143) (.k (.bool .true)) (.t 148)) .none 149 .none .false
  [] .false]) (.cond (.t 149) (.seq (.reg 150 1 [.mk (.some 8) (.mv (.k (.bool .false))) .none 150 .none .false [] .false]) .ret) .skip)) (.seq (.seq (.reg 151 1 [.mk (.some 24)
  (.mv (.k (.int .i64 0))) .none 151 .none .false [] .false]) (.block 0 (.loop (.seq (.seq (.reg 152 4 [.mk (.some 150) (.mv (.t 24)) .none 152 .none .false [] .false, .mk (.some
  151) (.mv (.t 22)) .none 153 .none .false [] .false, .mk (.some 152) (.len (.t 151)) .none 154 .none .false [] .false, .mk (.some 153) (.bin .lss (.t 150) (.t 152)) .none 155
  .none .false [] .false]) (.cond (.t 153) .skip (.exit 0))) (.seq (.block 1 (.seq (.reg 156 1 [.mk (.some 25) (.mv (.k (.bool .false))) .none 156 .none .false [] .false]) (.seq
  (.seq (.reg 157 1 [.mk (.some 26) (.mv (.k (.int .i64 0))) .none 157 .none .false [] .false]) (.block 2 (.loop (.seq (.seq (.reg 158 4 [.mk (.some 156) (.mv (.t 26)) .none 158
  .none .false [] .false, .mk (.some 157) (.mv (.t 15)) .none 159 .none .false [] .false, .mk (.some 158) (.len (.t 157)) .none 160 .none .false [] .false, .mk (.some 159) (.bin
  .lss (.t 156) (.t 158)) .none 161 .none .false [] .false]) (.cond (.t 159) .skip (.exit 2))) (.seq (.block 3 (.draw 162 13 [] [] [.mk (.some 162) (.mv (.t 25)) .none 162 (.some
  []) .true [] .false, .mk (.some 163) (.mv (.t 162)) .none 163 (.some []) .true [] .false, .mk (.some 164) (.mv (.t 15)) (.some (163, .false)) 164 (.some []) .true [] .false, .mk
  (.some 165) (.mv (.t 26)) (.some (163, .false)) 165 (.some []) .true [] .false, .mk (.some 166) (.iaddr 1 (.t 164) (.t 165)) (.some (163, .false)) 166 (.some []) .true [] .false,
  .mk (.some 167) (.load 1 .false (.t 166)) (.some (163, .false)) 167 (.some []) .true [] .false, .mk (.some 168) (.mv (.t 22)) (.some (163, .false)) 168 (.some []) .true [] .false,
  .mk (.some 169) (.mv (.t 24)) (.some (163, .false)) 169 (.some []) .true [] .false, .mk (.some 170) (.iaddr 1 (.t 168) (.t 169)) (.some (163, .false)) 170 (.some []) .true []
  .false, .mk (.some 171) (.load 1 .false (.t 170)) (.some (163, .false)) 171 (.some []) .true [] .false, .mk (.some 172) (.bin .eql (.t 167) (.t 171)) (.some (163, .false)) 172
  (.some []) .true [] .false, .mk (.some 173) (.pick (.t 163) (.k (.bool .true)) (.t 172)) .none 173 (.some []) .true [] .false, .mk (.some 25) (.mv (.t 173)) .none 174 (.some [])
  .true [] .false])) (.reg 175 3 [.mk (.some 160) (.mv (.t 26)) .none 175 .none .false [] .false, .mk (.some 161) (.bin .add (.t 160) (.k (.int .i64 1))) .none 176 .none .false []
  .false, .mk (.some 26) (.mv (.t 161)) .none 177 .none .false [] .false])))))) (.seq (.reg 178 2 [.mk (.some 174) (.mv (.t 25)) .none 178 .none .false [] .false, .mk (.some 175)
  (.un .not (.t 174)) .none 179 .none .false [] .false]) (.cond (.t 175) (.seq (.reg 180 1 [.mk (.some 8) (.mv (.k (.bool .false))) .none 180 .none .false [] .false]) .ret)
  .skip))))) (.reg 181 3 [.mk (.some 154) (.mv (.t 24)) .none 181 .none .false [] .false, .mk (.some 155) (.bin .add (.t 154) (.k (.int .i64 1))) .none 182 .none .false [] .false,
  .mk (.some 24) (.mv (.t 155)) .none 183 .none .false [] .false])))))) (.seq (.reg 184 2 [.mk (.some 176) (.call 10 []) .none 184 .none .false [] .false, .mk (.some 8) (.mv (.t
  176)) .none 185 .none .false [] .false]) .ret)))))))))))))
def rs5 : List IRes := [.tmp 8]
set_option maxRecDepth 100000 in
theorem comp5 : Comp Try.prog 5 ir5 rs5 177 := ⟨⟨_, _, 186, Try.func5, rfl, by kernel_rfl, by kernel_rfl, rfl⟩⟩
end Go.Proofs.Ytgpfejgohclheaa
