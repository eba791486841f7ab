/- The intermediate forms of functions of the program (printed by a program of mine), each checked against the code. The intermediate forms of functions of the program (printed by a program of mine), each checked against the code. -/
import Derived.Test.YtgpfejgohclheaaMC
import Derived.Test.YtgpfejgohclheaaProg
import Derived.KernelRfl
set_option linter.unusedSimpArgs false
set_option linter.unusedVariables false
namespace Go.Proofs.Ytgpfejgohclheaa
open Go.Pal
def ir15:IC :=
 .seq (.reg 0 1 [o1 4 (.mv (.k (.bool .false))) 0]) (.seq (.seq (.reg 1 5 [o1 6 (.mv (.t 0)) 1,o1 7 (.len (.t 6)) 2,o1 8 (.mv (.t 1)) 3,o1 9 (.len (.t 8)) 4,o1 10 (.bin .neq (.t 7) (.t 9)) 5]) (.cond (.t 10) (.seq (.reg 6 1 [o1 4 (.mv (.k (.bool .false))) 6]) .ret)
 .skip)) (.seq (.seq (.reg 7 1 [o1 5 (.mv (.k (.int .i64 0))) 7]) (.block 0 (.loop (.seq (.seq (.reg 8 4 [o1 11 (.mv (.t 5)) 8,o1 12 (.mv (.t 0)) 9,o1 13 (.len (.t 12)) 10,o1 14 (.bin .lss (.t 11) (.t 13)) 11]) (.cond (.t 14) .skip (.exit 0))) (.seq (.block 1 (.seq (.draw 12 9 [] [] [o3 17 (.mv (.t 0)) 12,o3 18 (.mv (.t 5)) 13,o3 19 (.iaddr 1 (.t 17) (.t 18)) 14,o3 20 (.load 1 .false (.t 19)) 15,o3 21 (.mv (.t 1)) 16,o3 22 (.mv (.t 5)) 17,o3 23 (.iaddr 1 (.t 21) (.t 22)) 18,o3 24 (.load 1 .false (.t 23)) 19,o3 25 (.bin .neq (.t 20) (.t 24)) 20]) (.cond (.t 25) (.seq (.reg 21 1 [o1 4 (.mv (.k (.bool .false))) 21]) .ret)
 .skip))) (.reg 22 3 [o1 15 (.mv (.t 5)) 22,o1 16 (.bin .add (.t 15) (.k (.int .i64 1))) 23,o1 5 (.mv (.t 16)) 24])))))) (.seq (.reg 25 1 [o1 4 (.mv (.k (.bool .true))) 25]) .ret)))
def rs15:List IRes:=[.tmp 4]
set_option maxRecDepth 100000 in
theorem comp15:Comp Try.prog 15 ir15 rs15 26:=⟨⟨_,_,26,Try.func15,rfl,by kernel_rfl,by kernel_rfl,rfl⟩⟩
theorem body15:HasBody Try.prog 15:=hasBody_of (by kernel_rfl)

def ir33:IC :=
 .seq (.reg 0 1 [o1 4 (.mv (.k (.bool .false))) 0]) (.seq (.seq (.reg 1 5 [o1 6 (.mv (.t 0)) 1,o1 7 (.len (.t 6)) 2,o1 8 (.mv (.t 1)) 3,o1 9 (.len (.t 8)) 4,o1 10 (.bin .neq (.t 7) (.t 9)) 5]) (.cond (.t 10) (.seq (.reg 6 1 [o1 4 (.mv (.k (.bool .false))) 6]) .ret)
 .skip)) (.seq (.seq (.reg 7 1 [o1 5 (.mv (.k (.int .i64 0))) 7]) (.block 0 (.loop (.seq (.seq (.reg 8 4 [o1 11 (.mv (.t 5)) 8,o1 12 (.mv (.t 0)) 9,o1 13 (.len (.t 12)) 10,o1 14 (.bin .lss (.t 11) (.t 13)) 11]) (.cond (.t 14) .skip (.exit 0))) (.seq (.block 1 (.seq (.draw 12 9 [] [] [o3 17 (.mv (.t 0)) 12,o3 18 (.mv (.t 5)) 13,o3 19 (.iaddr 1 (.t 17) (.t 18)) 14,o3 20 (.load 1 .false (.t 19)) 15,o3 21 (.mv (.t 1)) 16,o3 22 (.mv (.t 5)) 17,o3 23 (.iaddr 1 (.t 21) (.t 22)) 18,o3 24 (.load 1 .false (.t 23)) 19,o3 25 (.bin .neq (.t 20) (.t 24)) 20]) (.cond (.t 25) (.seq (.reg 21 1 [o1 4 (.mv (.k (.bool .false))) 21]) .ret)
 .skip))) (.reg 22 3 [o1 15 (.mv (.t 5)) 22,o1 16 (.bin .add (.t 15) (.k (.int .i64 1))) 23,o1 5 (.mv (.t 16)) 24])))))) (.seq (.reg 25 1 [o1 4 (.mv (.k (.bool .true))) 25]) .ret)))
def rs33:List IRes:=[.tmp 4]
set_option maxRecDepth 100000 in
theorem comp33:Comp Try.prog 33 ir33 rs33 26:=⟨⟨_,_,26,Try.func33,rfl,by kernel_rfl,by kernel_rfl,rfl⟩⟩
theorem body33:HasBody Try.prog 33:=hasBody_of (by kernel_rfl)

end Go.Proofs.Ytgpfejgohclheaa

namespace Go.Proofs.Ytgpfejgohclheaa
open Go.Pal
def ir76:IC :=
 .seq (.reg 0 1 [o1 6 (.mv (.k (.bool .false))) 0]) (.seq (.reg 1 9 [o1 7 (.mv (.t 1)) 1,o1 8 (.mv (.t 0)) 2,o1 9 (.bin .leq (.t 7) (.t 8)) 3,o1 10 (.mv (.t 9)) 4,
 .mk (.some 11) (.mv (.t 0)) (.some (10, .true)) 5 .none .false [] .false, .mk (.some 12) (.mv (.t 2)) (.some (10, .true)) 6 .none .false [] .false, .mk (.some 13) (.bin .leq (.t
 11) (.t 12)) (.some (10, .true)) 7 .none .false [] .false,o1 14 (.pick (.t 10) (.t 13) (.k (.bool .false))) 8,o1 6 (.mv (.t 14)) 9]) .ret)
def rs76:List IRes:=[.tmp 6]
set_option maxRecDepth 100000 in
theorem comp76:Comp Try.prog 76 ir76 rs76 15:=⟨⟨_,_,10,Try.func76,rfl,by kernel_rfl,by kernel_rfl,rfl⟩⟩
theorem body76:HasBody Try.prog 76:=hasBody_of (by kernel_rfl)

def ir103:IC :=
 .seq (.reg 0 2 [o1 2 (.box 36 (.t 0)) 0,o1 4 (.mv (.k (.bool .false))) 1]) (.seq (.reg 2 6 [o1 5 (.mv (.t 1)) 2,o1 6 (.faddr 0 (.t 2)) 3,o1 7 (.load 1 .false (.t 6)) 4,o1 8 (.bin .sub (.t 7) (.k (.int .i64 1))) 5,o1 9 (.call 76 [.t 5, .k (.int .i64 0), .t 8]) 6,
 o1 4 (.mv (.t 9)) 7]) .ret)
def rs103:List IRes:=[.tmp 4]
set_option maxRecDepth 100000 in
theorem comp103:Comp Try.prog 103 ir103 rs103 10:=⟨⟨_,_,8,Try.func103,rfl,by kernel_rfl,by kernel_rfl,rfl⟩⟩
theorem body103:HasBody Try.prog 103:=hasBody_of (by kernel_rfl)

def ir62:IC :=
 .seq (.reg 0 1 [o1 2 (.mv (.k (.bool .false))) 0]) (.seq (.seq (.reg 1 3 [o1 4 (.mv (.t 0)) 1,o1 5 (.len (.t 4)) 2,o1 6 (.mv (.k (.int .i64 0))) 3]) (.block 0 (.loop (.seq (.reg 4 1 [o1 7 (.bin .lss (.t 6) (.t 5)) 4]) (.seq (.cond (.t 7) .skip (.exit 0)) (.seq (.block 1 (.seq (.reg 5 2 [o1 8 (.mv (.t 6)) 5,
 o1 3 (.mv (.t 8)) 6]) (.seq (.draw 7 14 [] [] [o3 9 (.mv (.t 3)) 7,o3 10 (.bin .gtr (.t 9) (.k (.int .i64 0))) 8,o3 11 (.mv (.t 10)) 9, .mk (.some 12) (.mv (.t 0)) (.some (11, .true)) 10
 (.some []) .true [] .false, .mk (.some 13) (.mv (.t 3)) (.some (11, .true)) 11 (.some []) .true [] .false, .mk (.some 14) (.iaddr 1 (.t 12) (.t 13)) (.some (11, .true)) 12 (.some
 []) .true [] .false, .mk (.some 15) (.load 1 .false (.t 14)) (.some (11, .true)) 13 (.some []) .true [] .false, .mk (.some 16) (.mv (.t 0)) (.some (11, .true)) 14 (.some []) .true
 [] .false, .mk (.some 17) (.mv (.t 3)) (.some (11, .true)) 15 (.some []) .true [] .false, .mk (.some 18) (.bin .sub (.t 17) (.k (.int .i64 1))) (.some (11, .true)) 16 (.some [])
 .true [] .false, .mk (.some 19) (.iaddr 1 (.t 16) (.t 18)) (.some (11, .true)) 17 (.some []) .true [] .false, .mk (.some 20) (.load 1 .false (.t 19)) (.some (11, .true)) 18 (.some
 []) .true [] .false, .mk (.some 21) (.bin .leq (.t 15) (.t 20)) (.some (11, .true)) 19 (.some []) .true [] .false,o3 22 (.pick (.t 11) (.t 21) (.k (.bool .false))) 20]) (.cond (.t 22) (.seq (.reg 21 1 [o1 2 (.mv (.k (.bool .false))) 21]) .ret) .skip)))) (.reg 22 2 [o1 23 (.bin .add (.t 6) (.k (.int .i64 1))) 22,o1 6 (.mv (.t 23)) 23]))))))) (.seq (.reg 24 1 [o1 2 (.mv (.k (.bool .true))) 24]) .ret))
def rs62:List IRes:=[.tmp 2]
set_option maxRecDepth 100000 in
theorem comp62:Comp Try.prog 62 ir62 rs62 24:=⟨⟨_,_,25,Try.func62,rfl,by kernel_rfl,by kernel_rfl,rfl⟩⟩
theorem body62:HasBody Try.prog 62:=hasBody_of (by kernel_rfl)

def ir65:IC :=
 .seq (.reg 0 1 [o1 4 (.mv (.k (.bool .false))) 0]) (.seq (.reg 1 5 [o1 5 (.mv (.t 0)) 1,o1 6 (.mv (.t 1)) 2,o1 7 (.call 85 [.t 5, .t 6]) 3,o1 8 (.bin .geq (.t 7) (.k (.int .i64 0))) 4,o1 4 (.mv (.t 8)) 5]) .ret)
def rs65:List IRes:=[.tmp 4]
set_option maxRecDepth 100000 in
theorem comp65:Comp Try.prog 65 ir65 rs65 9:=⟨⟨_,_,6,Try.func65,rfl,by kernel_rfl,by kernel_rfl,rfl⟩⟩
theorem body65:HasBody Try.prog 65:=hasBody_of (by kernel_rfl)

def ir49:IC :=
 .seq (.reg 0 1 [o1 4 (.mv (.k (.bool .false))) 0]) (.seq (.reg 1 5 [o1 5 (.mv (.t 0)) 1,o1 6 (.mv (.t 1)) 2,o1 7 (.call 73 [.t 5, .t 6]) 3,o1 8 (.bin .geq (.t 7) (.k (.int .i64 0))) 4,o1 4 (.mv (.t 8)) 5]) .ret)
def rs49:List IRes:=[.tmp 4]
set_option maxRecDepth 100000 in
theorem comp49:Comp Try.prog 49 ir49 rs49 9:=⟨⟨_,_,6,Try.func49,rfl,by kernel_rfl,by kernel_rfl,rfl⟩⟩
theorem body49:HasBody Try.prog 49:=hasBody_of (by kernel_rfl)

def ir85:IC :=
 .seq (.reg 0 1 [o1 4 (.mv (.k (.int .i64 0))) 0]) (.seq (.seq (.reg 1 3 [o1 6 (.mv (.t 0)) 1,o1 7 (.len (.t 6)) 2,o1 8 (.mv (.k (.int .i64 0))) 3]) (.block 0 (.loop (.seq (.reg 4 1 [o1 9 (.bin .lss (.t 8) (.t 7)) 4]) (.seq (.cond (.t 9) .skip (.exit 0)) (.seq (.block 1 (.seq (.reg 5 2 [o1 10 (.mv (.t 8)) 5,
 o1 5 (.mv (.t 10)) 6]) (.seq (.reg 7 6 [o1 11 (.mv (.t 1)) 7,o1 12 (.mv (.t 0)) 8,o1 13 (.mv (.t 5)) 9,o1 14 (.iaddr 1 (.t 12) (.t 13)) 10,o1 15 (.load 1 .false (.t 14)) 11,o1 16 (.bin .eql (.t 11) (.t 15)) 12]) (.cond (.t 16) (.seq (.reg 13 2 [o1 17 (.mv (.t 5)) 13,o1 4 (.mv (.t 17)) 14]) .ret) .skip)))) (.reg 15 2 [o1 18 (.bin .add (.t 8) (.k (.int .i64 1))) 15,o1 8 (.mv (.t 18)) 16]))))))) (.seq (.reg 17 1 [o1 4 (.mv (.k (.int .i64 (-1)))) 17]) .ret))
def rs85:List IRes:=[.tmp 4]
set_option maxRecDepth 100000 in
theorem comp85:Comp Try.prog 85 ir85 rs85 19:=⟨⟨_,_,18,Try.func85,rfl,by kernel_rfl,by kernel_rfl,rfl⟩⟩
theorem body85:HasBody Try.prog 85:=hasBody_of (by kernel_rfl)

def ir73:IC :=
 .seq (.reg 0 1 [o1 4 (.mv (.k (.int .i64 0))) 0]) (.seq (.seq (.reg 1 3 [o1 6 (.mv (.t 0)) 1,o1 7 (.len (.t 6)) 2,o1 8 (.mv (.k (.int .i64 0))) 3]) (.block 0 (.loop (.seq (.reg 4 1 [o1 9 (.bin .lss (.t 8) (.t 7)) 4]) (.seq (.cond (.t 9) .skip (.exit 0)) (.seq (.block 1 (.seq (.reg 5 2 [o1 10 (.mv (.t 8)) 5,
 o1 5 (.mv (.t 10)) 6]) (.seq (.reg 7 6 [o1 11 (.mv (.t 1)) 7,o1 12 (.mv (.t 0)) 8,o1 13 (.mv (.t 5)) 9,o1 14 (.iaddr 1 (.t 12) (.t 13)) 10,o1 15 (.load 1 .false (.t 14)) 11,o1 16 (.bin .eql (.t 11) (.t 15)) 12]) (.cond (.t 16) (.seq (.reg 13 2 [o1 17 (.mv (.t 5)) 13,o1 4 (.mv (.t 17)) 14]) .ret) .skip)))) (.reg 15 2 [o1 18 (.bin .add (.t 8) (.k (.int .i64 1))) 15,o1 8 (.mv (.t 18)) 16]))))))) (.seq (.reg 17 1 [o1 4 (.mv (.k (.int .i64 (-1)))) 17]) .ret))
def rs73:List IRes:=[.tmp 4]
set_option maxRecDepth 100000 in
theorem comp73:Comp Try.prog 73 ir73 rs73 19:=⟨⟨_,_,18,Try.func73,rfl,by kernel_rfl,by kernel_rfl,rfl⟩⟩
theorem body73:HasBody Try.prog 73:=hasBody_of (by kernel_rfl)

def ir60:IC :=
 .seq (.reg 0 2 [o1 3 (.box 109 (.t 1)) 0,o1 4 (.mv (.k (.bool .false))) 1]) (.seq (.reg 2 5 [o1 5 (.mv (.t 0)) 2,o1 6 (.mkf 82 [] [.t 3]) 3,o1 7 (.call 81 [.t 5, .t 6]) 4,o1 8 (.un .not (.t 7)) 5,o1 4 (.mv (.t 8)) 6]) .ret)
def rs60:List IRes:=[.tmp 4]
set_option maxRecDepth 100000 in
theorem comp60:Comp Try.prog 60 ir60 rs60 9:=⟨⟨_,_,7,Try.func60,rfl,by kernel_rfl,by kernel_rfl,rfl⟩⟩
theorem body60:HasBody Try.prog 60:=hasBody_of (by kernel_rfl)

def ir63:IC :=
 .seq (.reg 1 2 [o1 3 (.box 112 (.t 1)) 1,o1 4 (.mv (.k (.bool .false))) 2]) (.seq (.reg 3 5 [o1 5 (.mv (.t 0)) 3,o1 6 (.mkf 84 [] [.t 3]) 4,o1 7 (.call 83 [.t 5, .t 6]) 5,o1 8 (.un .not (.t 7)) 6,o1 4 (.mv (.t 8)) 7]) .ret)
def rs63:List IRes:=[.tmp 4]
set_option maxRecDepth 100000 in
theorem comp63:CompAt Try.prog 63 1 ir63 rs63 9:=⟨⟨_,_,8,Try.func63,rfl,by kernel_rfl,by kernel_rfl,rfl⟩⟩
theorem body63:HasBody Try.prog 63:=hasBody_of (by kernel_rfl)

def ir77:IC :=
 .seq (.reg 0 2 [o1 3 (.box 110 (.t 1)) 0,o1 4 (.mv (.k (.bool .false))) 1]) (.seq (.reg 2 5 [o1 5 (.mv (.t 0)) 2,o1 6 (.mkf 102 [] [.t 3]) 3,o1 7 (.call 101 [.t 5, .t 6]) 4,o1 8 (.un .not (.t 7)) 5,o1 4 (.mv (.t 8)) 6]) .ret)
def rs77:List IRes:=[.tmp 4]
set_option maxRecDepth 100000 in
theorem comp77:Comp Try.prog 77 ir77 rs77 9:=⟨⟨_,_,7,Try.func77,rfl,by kernel_rfl,by kernel_rfl,rfl⟩⟩
theorem body77:HasBody Try.prog 77:=hasBody_of (by kernel_rfl)

def ir104:IC :=
 .seq (.reg 2 2 [o1 3 (.box 149 (.t 1)) 2,o1 4 (.mv (.k (.bool .false))) 3]) (.seq (.reg 4 5 [o1 5 (.mv (.t 0)) 4,o1 6 (.mkf 117 [] [.t 3]) 5,o1 7 (.call 116 [.t 5, .t 6]) 6,o1 8 (.un .not (.t 7)) 7,o1 4 (.mv (.t 8)) 8]) .ret)
def rs104:List IRes:=[.tmp 4]
set_option maxRecDepth 100000 in
theorem comp104:CompAt Try.prog 104 2 ir104 rs104 9:=⟨⟨_,_,9,Try.func104,rfl,by kernel_rfl,by kernel_rfl,rfl⟩⟩
theorem body104:HasBody Try.prog 104:=hasBody_of (by kernel_rfl)

def ir78:IC :=
 .seq (.reg 0 2 [o1 2 (.box 36 (.t 0)) 0,o1 4 (.mv (.k (.bool .false))) 1]) (.seq (.reg 2 9 [o1 5 (.mv (.t 1)) 2,o1 6 (.load 11 .true (.t 2)) 3,o1 7 (.mkf 103 [.t 6] []) 4,o1 8 (.call 63 [.t 5, .t 7]) 5,o1 9 (.mv (.t 8)) 6, .mk (.some 10) (.mv (.t 1)) (.some (9,
 .true)) 7 .none .false [] .false, .mk (.some 11) (.call 62 [.t 10]) (.some (9, .true)) 8 .none .false [] .false,o1 12 (.pick (.t 9) (.t 11) (.k (.bool .false))) 9,o1 4 (.mv (.t 12)) 10]) .ret)
def rs78:List IRes:=[.tmp 4]
set_option maxRecDepth 100000 in
theorem comp78:Comp Try.prog 78 ir78 rs78 13:=⟨⟨_,_,11,Try.func78,rfl,by kernel_rfl,by kernel_rfl,rfl⟩⟩
theorem body78:HasBody Try.prog 78:=hasBody_of (by kernel_rfl)

def ir81:IC :=
 .seq (.reg 1 1 [o1 4 (.mv (.k (.bool .false))) 1]) (.seq (.reg 2 5 [o1 5 (.mv (.t 0)) 2,o1 6 (.mv (.t 1)) 3,o1 7 (.call 107 [.t 5, .t 6]) 4,o1 8 (.bin .geq (.t 7) (.k (.int .i64 0))) 5,o1 4 (.mv (.t 8)) 6]) .ret)
def rs81:List IRes:=[.tmp 4]
set_option maxRecDepth 100000 in
theorem comp81:CompAt Try.prog 81 1 ir81 rs81 9:=⟨⟨_,_,7,Try.func81,rfl,by kernel_rfl,by kernel_rfl,rfl⟩⟩
theorem body81:HasBody Try.prog 81:=hasBody_of (by kernel_rfl)

def ir83:IC :=
 .seq (.reg 2 1 [o1 4 (.mv (.k (.bool .false))) 2]) (.seq (.reg 3 5 [o1 5 (.mv (.t 0)) 3,o1 6 (.mv (.t 1)) 4,o1 7 (.call 108 [.t 5, .t 6]) 5,o1 8 (.bin .geq (.t 7) (.k (.int .i64 0))) 6,o1 4 (.mv (.t 8)) 7]) .ret)
def rs83:List IRes:=[.tmp 4]
set_option maxRecDepth 100000 in
theorem comp83:CompAt Try.prog 83 2 ir83 rs83 9:=⟨⟨_,_,8,Try.func83,rfl,by kernel_rfl,by kernel_rfl,rfl⟩⟩
theorem body83:HasBody Try.prog 83:=hasBody_of (by kernel_rfl)

def ir101:IC :=
 .seq (.reg 1 1 [o1 4 (.mv (.k (.bool .false))) 1]) (.seq (.reg 2 5 [o1 5 (.mv (.t 0)) 2,o1 6 (.mv (.t 1)) 3,o1 7 (.call 115 [.t 5, .t 6]) 4,o1 8 (.bin .geq (.t 7) (.k (.int .i64 0))) 5,o1 4 (.mv (.t 8)) 6]) .ret)
def rs101:List IRes:=[.tmp 4]
set_option maxRecDepth 100000 in
theorem comp101:CompAt Try.prog 101 1 ir101 rs101 9:=⟨⟨_,_,7,Try.func101,rfl,by kernel_rfl,by kernel_rfl,rfl⟩⟩
theorem body101:HasBody Try.prog 101:=hasBody_of (by kernel_rfl)

def ir116:IC :=
 .seq (.reg 3 1 [o1 4 (.mv (.k (.bool .false))) 3]) (.seq (.reg 4 5 [o1 5 (.mv (.t 0)) 4,o1 6 (.mv (.t 1)) 5,o1 7 (.call 119 [.t 5, .t 6]) 6,o1 8 (.bin .geq (.t 7) (.k (.int .i64 0))) 7,o1 4 (.mv (.t 8)) 8]) .ret)
def rs116:List IRes:=[.tmp 4]
set_option maxRecDepth 100000 in
theorem comp116:CompAt Try.prog 116 3 ir116 rs116 9:=⟨⟨_,_,9,Try.func116,rfl,by kernel_rfl,by kernel_rfl,rfl⟩⟩
theorem body116:HasBody Try.prog 116:=hasBody_of (by kernel_rfl)

def ir107:IC :=
 .seq (.reg 1 1 [o1 4 (.mv (.k (.int .i64 0))) 1]) (.seq (.seq (.reg 2 3 [o1 6 (.mv (.t 0)) 2,o1 7 (.len (.t 6)) 3,o1 8 (.mv (.k (.int .i64 0))) 4]) (.block 0 (.loop (.seq (.reg 5 1 [o1 9 (.bin .lss (.t 8) (.t 7)) 5]) (.seq (.cond (.t 9) .skip (.exit 0)) (.seq (.block 1 (.seq (.reg 6 2 [o1 10 (.mv (.t 8)) 6,
 o1 5 (.mv (.t 10)) 7]) (.seq (.reg 8 6 [o1 11 (.mv (.t 1)) 8,o1 12 (.mv (.t 0)) 9,o1 13 (.mv (.t 5)) 10,o1 14 (.iaddr 1 (.t 12) (.t 13)) 11,o1 15 (.load 1 .false (.t 14)) 12,o1 16 (.callv (.t 11) [.t 15]) 13]) (.cond (.t 16) (.seq (.reg 14 2 [o1 17 (.mv (.t 5)) 14,o1 4 (.mv (.t 17)) 15]) .ret) .skip)))) (.reg 16 2 [o1 18 (.bin .add (.t 8) (.k (.int .i64 1))) 16,o1 8 (.mv (.t 18)) 17]))))))) (.seq (.reg 18 1 [o1 4 (.mv (.k (.int .i64 (-1)))) 18]) .ret))
def rs107:List IRes:=[.tmp 4]
set_option maxRecDepth 100000 in
theorem comp107:CompAt Try.prog 107 1 ir107 rs107 19:=⟨⟨_,_,19,Try.func107,rfl,by kernel_rfl,by kernel_rfl,rfl⟩⟩
theorem body107:HasBody Try.prog 107:=hasBody_of (by kernel_rfl)

def ir108:IC :=
 .seq (.reg 2 1 [o1 4 (.mv (.k (.int .i64 0))) 2]) (.seq (.seq (.reg 3 3 [o1 6 (.mv (.t 0)) 3,o1 7 (.len (.t 6)) 4,o1 8 (.mv (.k (.int .i64 0))) 5]) (.block 0 (.loop (.seq (.reg 6 1 [o1 9 (.bin .lss (.t 8) (.t 7)) 6]) (.seq (.cond (.t 9) .skip (.exit 0)) (.seq (.block 1 (.seq (.reg 7 2 [o1 10 (.mv (.t 8)) 7,
 o1 5 (.mv (.t 10)) 8]) (.seq (.reg 9 6 [o1 11 (.mv (.t 1)) 9,o1 12 (.mv (.t 0)) 10,o1 13 (.mv (.t 5)) 11,o1 14 (.iaddr 1 (.t 12) (.t 13)) 12,o1 15 (.load 1 .false (.t 14)) 13,o1 16 (.callv (.t 11) [.t 15]) 14]) (.cond (.t 16) (.seq (.reg 15 2 [o1 17 (.mv (.t 5)) 15,o1 4 (.mv (.t 17)) 16]) .ret) .skip)))) (.reg 17 2 [o1 18 (.bin .add (.t 8) (.k (.int .i64 1))) 17,o1 8 (.mv (.t 18)) 18]))))))) (.seq (.reg 19 1 [o1 4 (.mv (.k (.int .i64 (-1)))) 19]) .ret))
def rs108:List IRes:=[.tmp 4]
set_option maxRecDepth 100000 in
theorem comp108:CompAt Try.prog 108 2 ir108 rs108 19:=⟨⟨_,_,20,Try.func108,rfl,by kernel_rfl,by kernel_rfl,rfl⟩⟩
theorem body108:HasBody Try.prog 108:=hasBody_of (by kernel_rfl)

def ir115:IC :=
 .seq (.reg 1 1 [o1 4 (.mv (.k (.int .i64 0))) 1]) (.seq (.seq (.reg 2 3 [o1 6 (.mv (.t 0)) 2,o1 7 (.len (.t 6)) 3,o1 8 (.mv (.k (.int .i64 0))) 4]) (.block 0 (.loop (.seq (.reg 5 1 [o1 9 (.bin .lss (.t 8) (.t 7)) 5]) (.seq (.cond (.t 9) .skip (.exit 0)) (.seq (.block 1 (.seq (.reg 6 2 [o1 10 (.mv (.t 8)) 6,
 o1 5 (.mv (.t 10)) 7]) (.seq (.reg 8 6 [o1 11 (.mv (.t 1)) 8,o1 12 (.mv (.t 0)) 9,o1 13 (.mv (.t 5)) 10,o1 14 (.iaddr 1 (.t 12) (.t 13)) 11,o1 15 (.load 1 .false (.t 14)) 12,o1 16 (.callv (.t 11) [.t 15]) 13]) (.cond (.t 16) (.seq (.reg 14 2 [o1 17 (.mv (.t 5)) 14,o1 4 (.mv (.t 17)) 15]) .ret) .skip)))) (.reg 16 2 [o1 18 (.bin .add (.t 8) (.k (.int .i64 1))) 16,o1 8 (.mv (.t 18)) 17]))))))) (.seq (.reg 18 1 [o1 4 (.mv (.k (.int .i64 (-1)))) 18]) .ret))
def rs115:List IRes:=[.tmp 4]
set_option maxRecDepth 100000 in
theorem comp115:CompAt Try.prog 115 1 ir115 rs115 19:=⟨⟨_,_,19,Try.func115,rfl,by kernel_rfl,by kernel_rfl,rfl⟩⟩
theorem body115:HasBody Try.prog 115:=hasBody_of (by kernel_rfl)

def ir119:IC :=
 .seq (.reg 3 1 [o1 4 (.mv (.k (.int .i64 0))) 3]) (.seq (.seq (.reg 4 3 [o1 6 (.mv (.t 0)) 4,o1 7 (.len (.t 6)) 5,o1 8 (.mv (.k (.int .i64 0))) 6]) (.block 0 (.loop (.seq (.reg 7 1 [o1 9 (.bin .lss (.t 8) (.t 7)) 7]) (.seq (.cond (.t 9) .skip (.exit 0)) (.seq (.block 1 (.seq (.reg 8 2 [o1 10 (.mv (.t 8)) 8,
 o1 5 (.mv (.t 10)) 9]) (.seq (.reg 10 6 [o1 11 (.mv (.t 1)) 10,o1 12 (.mv (.t 0)) 11,o1 13 (.mv (.t 5)) 12,o1 14 (.iaddr 2 (.t 12) (.t 13)) 13,o1 15 (.load 2 .true (.t 14)) 14,o1 16 (.callv (.t 11) [.t 15]) 15]) (.cond (.t 16) (.seq (.reg 16 2 [o1 17 (.mv (.t 5)) 16,o1 4 (.mv (.t 17)) 17]) .ret) .skip)))) (.reg 18 2 [o1 18 (.bin .add (.t 8) (.k (.int .i64 1))) 18,o1 8 (.mv (.t 18)) 19]))))))) (.seq (.reg 20 1 [o1 4 (.mv (.k (.int .i64 (-1)))) 20]) .ret))
def rs119:List IRes:=[.tmp 4]
set_option maxRecDepth 100000 in
theorem comp119:CompAt Try.prog 119 3 ir119 rs119 19:=⟨⟨_,_,21,Try.func119,rfl,by kernel_rfl,by kernel_rfl,rfl⟩⟩
theorem body119:HasBody Try.prog 119:=hasBody_of (by kernel_rfl)

def ir82:IC :=
 .seq (.reg 2 1 [o1 3 (.mv (.k (.bool .false))) 2]) (.seq (.reg 3 5 [o1 4 (.load 1 .false (.t 1)) 3,o1 5 (.mv (.t 0)) 4,o1 6 (.callv (.t 4) [.t 5]) 5,o1 7 (.un .not (.t 6)) 6,o1 3 (.mv (.t 7)) 7]) .ret)
def rs82:List IRes:=[.tmp 3]
set_option maxRecDepth 100000 in
theorem comp82:CompAt Try.prog 82 2 ir82 rs82 8:=⟨⟨_,_,8,Try.func82,rfl,by kernel_rfl,by kernel_rfl,rfl⟩⟩
theorem body82:HasBody Try.prog 82:=hasBody_of (by kernel_rfl)

def ir84:IC :=
 .seq (.reg 2 1 [o1 3 (.mv (.k (.bool .false))) 2]) (.seq (.reg 3 5 [o1 4 (.load 1 .false (.t 1)) 3,o1 5 (.mv (.t 0)) 4,o1 6 (.callv (.t 4) [.t 5]) 5,o1 7 (.un .not (.t 6)) 6,o1 3 (.mv (.t 7)) 7]) .ret)
def rs84:List IRes:=[.tmp 3]
set_option maxRecDepth 100000 in
theorem comp84:CompAt Try.prog 84 2 ir84 rs84 8:=⟨⟨_,_,8,Try.func84,rfl,by kernel_rfl,by kernel_rfl,rfl⟩⟩
theorem body84:HasBody Try.prog 84:=hasBody_of (by kernel_rfl)

def ir102:IC :=
 .seq (.reg 1 1 [o1 3 (.mv (.k (.bool .false))) 1]) (.seq (.reg 2 5 [o1 4 (.load 1 .false (.t 1)) 2,o1 5 (.mv (.t 0)) 3,o1 6 (.callv (.t 4) [.t 5]) 4,o1 7 (.un .not (.t 6)) 5,o1 3 (.mv (.t 7)) 6]) .ret)
def rs102:List IRes:=[.tmp 3]
set_option maxRecDepth 100000 in
theorem comp102:CompAt Try.prog 102 1 ir102 rs102 8:=⟨⟨_,_,7,Try.func102,rfl,by kernel_rfl,by kernel_rfl,rfl⟩⟩
theorem body102:HasBody Try.prog 102:=hasBody_of (by kernel_rfl)

def ir117:IC :=
 .seq (.reg 3 2 [o1 2 (.box 73 (.t 0)) 3,o1 3 (.mv (.k (.bool .false))) 4]) (.seq (.reg 5 5 [o1 4 (.load 1 .false (.t 1)) 5,o1 5 (.load 2 .true (.t 2)) 6,o1 6 (.callv (.t 4) [.t 5]) 7,o1 7 (.un .not (.t 6)) 8,o1 3 (.mv (.t 7)) 9]) .ret)
def rs117:List IRes:=[.tmp 3]
set_option maxRecDepth 100000 in
theorem comp117:CompAt Try.prog 117 3 ir117 rs117 8:=⟨⟨_,_,10,Try.func117,rfl,by kernel_rfl,by kernel_rfl,rfl⟩⟩
theorem body117:HasBody Try.prog 117:=hasBody_of (by kernel_rfl)

def ir61:IC :=
 .seq (.reg 0 1 [o1 2 (.mv (.k (.bool .false))) 0]) (.seq (.reg 1 3 [o1 3 (.mv (.t 0)) 1,o1 4 (.bin .leq (.t 3) (.k (.int .u8 2))) 2,o1 2 (.mv (.t 4)) 3]) .ret)
def rs61:List IRes:=[.tmp 2]
set_option maxRecDepth 100000 in
theorem comp61:Comp Try.prog 61 ir61 rs61 5:=⟨⟨_,_,4,Try.func61,rfl,by kernel_rfl,by kernel_rfl,rfl⟩⟩
theorem body61:HasBody Try.prog 61:=hasBody_of (by kernel_rfl)

def ir64:IC :=
 .seq (.reg 1 1 [o1 3 (.mv (.k (.bool .false))) 1]) (.seq (.reg 2 4 [o1 4 (.load 1 .false (.t 1)) 2,o1 5 (.mv (.t 0)) 3,o1 6 (.call 65 [.t 4, .t 5]) 4,o1 3 (.mv (.t 6)) 5]) .ret)
def rs64:List IRes:=[.tmp 3]
set_option maxRecDepth 100000 in
theorem comp64:CompAt Try.prog 64 1 ir64 rs64 7:=⟨⟨_,_,6,Try.func64,rfl,by kernel_rfl,by kernel_rfl,rfl⟩⟩
theorem body64:HasBody Try.prog 64:=hasBody_of (by kernel_rfl)

def ir105:IC :=
 .seq (.reg 2 2 [o1 2 (.box 73 (.t 0)) 2,o1 3 (.mv (.k (.bool .false))) 3]) (.seq (.reg 4 6 [o1 4 (.load 1 .false (.t 1)) 4,o1 5 (.faddr 0 (.t 2)) 5,o1 6 (.load 1 .false (.t 5)) 6,o1 7 (.lkp 3 (.bool .false) .false (.t 4) (.t 6)) 7,o1 8 (.un .not (.t 7)) 8,o1 3 (.mv (.t 8)) 9]) .ret)
def rs105:List IRes:=[.tmp 3]
set_option maxRecDepth 100000 in
theorem comp105:CompAt Try.prog 105 2 ir105 rs105 9:=⟨⟨_,_,10,Try.func105,rfl,by kernel_rfl,by kernel_rfl,rfl⟩⟩
theorem body105:HasBody Try.prog 105:=hasBody_of (by kernel_rfl)

def ir106:IC :=
 .seq (.reg 0 2 [o1 2 (.box 23 (.t 0)) 0,o1 4 (.mv (.k (.int .i64 0))) 1]) (.seq (.seq (.reg 2 2 [o1 7 (.load 2 .true (.t 2)) 2,o1 8 (.mv (.k (.int .i64 0))) 3]) (.block 0 (.loop (.seq (.reg 4 1 [o1 9 (.bin .lss (.t 8) (.k (.int .i64 2))) 4]) (.seq (.cond (.t 9) .skip (.exit 0)) (.seq (.block 1 (.seq (.reg 5 2 [o1 10 (.pur (.idx 23) [.t 7, .t 8]) 5,o1 6 (.mv (.t 10)) 6]) (.seq (.reg 7 3 [o1 11 (.mv (.t 6)) 7,o1 12 (.mv (.t 1)) 8,o1 13 (.call 65 [.t 11, .t 12]) 9]) (.cond (.t 13) (.reg 10 3 [o1 14 (.mv (.t 4)) 10,o1 15 (.bin .add (.t 14) (.k (.int .i64 1))) 11,o1 4 (.mv (.t 15)) 12]) .skip)))) (.reg 13 2 [o1 16 (.bin .add (.t 8) (.k (.int .i64 1))) 13,o1 8 (.mv (.t 16)) 14]))))))) (.seq (.reg 15 2 [o1 17 (.mv (.t 4)) 15,o1 4 (.mv (.t 17)) 16]) .ret))
def rs106:List IRes:=[.tmp 4]
set_option maxRecDepth 100000 in
theorem comp106:Comp Try.prog 106 ir106 rs106 18:=⟨⟨_,_,17,Try.func106,rfl,by kernel_rfl,by kernel_rfl,rfl⟩⟩
theorem body106:HasBody Try.prog 106:=hasBody_of (by kernel_rfl)

def ir80:IC :=
 .seq (.reg 0 2 [o1 2 (.box 36 (.t 0)) 0,o1 4 (.mv (.k (.slice .none 0 0))) 1]) (.seq (.draw 2 10 [1,2]
 [] [o3 8 (.faddr 1 (.t 2)) 2,o3 9 (.load 2 .true (.t 8)) 3,o3 10 (.mv (.t 1)) 4,o3 11 (.call 106 [.t 9, .t 10]) 5,o3 12 (.faddr 3 (.t 2)) 6,o3 13 (.load 2 .true (.t 12)) 7,o3 14 (.mv (.t 1)) 8, .mk (.some 15) (.call 106 [.t 13, .t 14])
 .none 9 (.some [5]) .false [] .false, .mk (.some 5) (.mv (.t 11)) .none 10 (.some [9,5]) .true [] .false, .mk (.some 6) (.mv (.t 15)) .none 11 (.some [5,9]) .true [] .false])
 (.seq (.reg 12 1 [o1 7 (.mv (.k (.slice .none 0 0))) 12]) (.seq (.seq (.reg 13 6 [o1 16 (.mv (.t 5)) 13,o1 17 (.bin .lss (.t 16) (.k (.int .i64 2))) 14,o1 18 (.mv (.t 17)) 15, .mk (.some 19) (.mv
 (.t 6)) (.some (18, .true)) 16 .none .false [] .false, .mk (.some 20) (.bin .lss (.t 19) (.k (.int .i64 2))) (.some (18, .true)) 17 .none .false [] .false,o1 21 (.pick (.t 18) (.t 20) (.k (.bool .false))) 18]) (.cond (.t 21) (.reg 19 4 [o1 22 (.mv (.t 7)) 19,o1 23 (.bsl 5 1 1 [.int .u8 0] [(0, .k (.int .u8 0))]) 20,o1 24 (.app 5 1 1 (.t 22) (.t 23)) 21,o1 7 (.mv (.t 24)) 22]) .skip)) (.seq (.seq (.reg 23 6 [o1 25 (.mv (.t 5)) 23,o1 26 (.bin .gtr (.t 25) (.k (.int .i64 0))) 24,o1 27 (.mv (.t 26)) 25, .mk (.some 28) (.mv (.t 6)) (.some (27, .true)) 26 .none .false [] .false,
 .mk (.some 29) (.bin .lss (.t 28) (.k (.int .i64 2))) (.some (27, .true)) 27 .none .false [] .false,o1 30 (.pick (.t 27) (.t 29) (.k (.bool .false))) 28]) (.cond (.t 30) (.reg 29 4 [o1 31 (.mv (.t 7)) 29,o1 32 (.bsl 5 1 1 [.int .u8 0] [(0, .k (.int .u8 1))]) 30,o1 33 (.app 5 1 1 (.t 31) (.t 32)) 31,o1 7 (.mv (.t 33)) 32]) .skip)) (.seq
 (.seq (.reg 33 6 [o1 34 (.mv (.t 6)) 33,o1 35 (.bin .gtr (.t 34) (.k (.int .i64 0))) 34,o1 36 (.mv (.t 35)) 35, .mk (.some 37) (.mv (.t 5)) (.some (36, .true)) 36 .none .false [] .false, .mk (.some 38) (.bin .lss (.t 37) (.k (.int .i64 2)))
 (.some (36, .true)) 37 .none .false [] .false,o1 39 (.pick (.t 36) (.t 38) (.k (.bool .false))) 38]) (.cond (.t 39) (.reg 39 4 [o1 40 (.mv (.t 7)) 39,o1 41 (.bsl 5 1 1 [.int .u8 0] [(0, .k (.int .u8 2))]) 40,o1 42 (.app 5 1 1 (.t 40) (.t 41)) 41,o1 7 (.mv (.t 42)) 42]) .skip)) (.seq (.reg 43 2 [o1 43 (.mv (.t 7)) 43,o1 4 (.mv (.t 43)) 44]) .ret))))))
def rs80:List IRes:=[.tmp 4]
set_option maxRecDepth 100000 in
theorem comp80:Comp Try.prog 80 ir80 rs80 44:=⟨⟨_,_,45,Try.func80,rfl,by kernel_rfl,by kernel_rfl,rfl⟩⟩
theorem body80:HasBody Try.prog 80:=hasBody_of (by kernel_rfl)

def ir57:IC :=
 .seq (.reg 0 3 [o1 1 (.box 78 (.t 0)) 0,o1 2 (.mv (.k (.int .i64 0))) 1,o1 3 (.mv (.k (.bool .false))) 2]) (.seq .skip (.seq (.seq (.reg 3 4 [o1 5 (.faddr 0 (.t 1)) 3,o1 6 (.faddr 0 (.t 5)) 4,o1 7 (.load 1 .false (.t 6)) 5,o1 8 (.mv (.k (.int .i64 0))) 6]) (.block 0
 (.loop (.seq (.reg 7 1 [o1 9 (.bin .lss (.t 8) (.t 7)) 7]) (.seq (.cond (.t 9) .skip (.exit 0)) (.seq (.block 1 (.seq (.reg 8 2 [o1 10 (.mv (.t 8)) 8,o1 4 (.mv (.t 10)) 9]) (.seq (.reg 10 6 [o1 11 (.mv (.t 4)) 10,o1 12 (.faddr 51 (.t 1)) 11,o1 13 (.aaddr 1 40 (.t 12) (.t 11)) 12,o1 14 (.load 1 .false (.t 13)) 13,o1 15 (.len (.t 14)) 14,o1 16 (.bin .eql (.t 15) (.k (.int .i64 0))) 15]) (.cond (.t 16) (.seq (.reg 16 3 [o1 17 (.mv (.t 4)) 16,o1 2 (.mv (.t 17)) 17,
 o1 3 (.mv (.k (.bool .true))) 18]) (.exit 0)) .skip)))) (.reg 19 2 [o1 18 (.bin .add (.t 8) (.k (.int .i64 1))) 19,o1 8 (.mv (.t 18)) 20]))))))) (.seq (.reg 21 4 [o1 19 (.mv (.t 2)) 21,o1 20 (.mv (.t 3)) 22,o1 2 (.mv (.t 19)) 23,o1 3 (.mv (.t 20)) 24]) .ret)))
def rs57:List IRes:=[.tmp 2, .tmp 3]
set_option maxRecDepth 100000 in
theorem comp57:Comp Try.prog 57 ir57 rs57 21:=⟨⟨_,_,25,Try.func57,rfl,by kernel_rfl,by kernel_rfl,rfl⟩⟩
theorem body57:HasBody Try.prog 57:=hasBody_of (by kernel_rfl)

def ir53:IC :=
 .seq (.reg 0 1 [o1 2 (.mv (.k (.slice .none 0 0))) 0]) (.seq (.seq (.reg 1 2 [o1 3 (.mv (.t 0)) 1,o1 4 (.pur (.bin .eql 22) [.t 3, .k (.slice .none 0 0)]) 2]) (.cond (.t 4) (.seq (.reg 3 1 [o1 2 (.mv (.k (.slice .none 0 0))) 3]) .ret) .skip)) (.seq (.reg 4 4 [o1 5 (.bsl 3 1 0 [] []) 4,o1 6 (.mv (.t 0)) 5,
 o1 7 (.app 3 1 8 (.t 5) (.t 6)) 6,o1 2 (.mv (.t 7)) 7]) .ret))
def rs53:List IRes:=[.tmp 2]
set_option maxRecDepth 100000 in
theorem comp53:Comp Try.prog 53 ir53 rs53 8:=⟨⟨_,_,8,Try.func53,rfl,by kernel_rfl,by kernel_rfl,rfl⟩⟩
theorem body53:HasBody Try.prog 53:=hasBody_of (by kernel_rfl)

def ir59:IC :=
 .seq (.reg 0 1 [o1 2 (.mv (.k (.slice .none 0 0))) 0]) (.seq (.seq (.reg 1 2 [o1 3 (.mv (.t 0)) 1,o1 4 (.pur (.bin .eql 50) [.t 3, .k (.slice .none 0 0)]) 2]) (.cond (.t 4) (.seq (.reg 3 1 [o1 2 (.mv (.k (.slice .none 0 0))) 3]) .ret) .skip)) (.seq (.reg 4 4 [o1 5 (.bsl 5 1 0 [] []) 4,o1 6 (.mv (.t 0)) 5,
 o1 7 (.app 5 1 1 (.t 5) (.t 6)) 6,o1 2 (.mv (.t 7)) 7]) .ret))
def rs59:List IRes:=[.tmp 2]
set_option maxRecDepth 100000 in
theorem comp59:Comp Try.prog 59 ir59 rs59 8:=⟨⟨_,_,8,Try.func59,rfl,by kernel_rfl,by kernel_rfl,rfl⟩⟩
theorem body59:HasBody Try.prog 59:=hasBody_of (by kernel_rfl)

def ir42:IC :=
 .seq (.reg 0 1 [o1 2 (.mv (.k (.int .i64 0))) 0]) (.seq (.reg 1 3 [o1 3 (.mv (.t 0)) 1,o1 4 (.call 69 [.t 3]) 2,o1 2 (.mv (.t 4)) 3]) .ret)
def rs42:List IRes:=[.tmp 2]
set_option maxRecDepth 100000 in
theorem comp42:Comp Try.prog 42 ir42 rs42 5:=⟨⟨_,_,4,Try.func42,rfl,by kernel_rfl,by kernel_rfl,rfl⟩⟩
theorem body42:HasBody Try.prog 42:=hasBody_of (by kernel_rfl)

def ir43:IC :=
 .seq (.reg 0 1 [o1 2 (.mv (.k (.int .i64 0))) 0]) (.seq (.reg 1 3 [o1 3 (.mv (.t 0)) 1,o1 4 (.call 70 [.t 3]) 2,o1 2 (.mv (.t 4)) 3]) .ret)
def rs43:List IRes:=[.tmp 2]
set_option maxRecDepth 100000 in
theorem comp43:Comp Try.prog 43 ir43 rs43 5:=⟨⟨_,_,4,Try.func43,rfl,by kernel_rfl,by kernel_rfl,rfl⟩⟩
theorem body43:HasBody Try.prog 43:=hasBody_of (by kernel_rfl)

def ir69:IC :=
 .seq (.reg 0 1 [o1 2 (.mv (.k (.int .i64 0))) 0]) (.seq (.seq (.reg 1 3 [o1 5 (.mv (.t 0)) 1,o1 6 (.len (.t 5)) 2,o1 7 (.bin .lss (.t 6) (.k (.int .i64 1))) 3]) (.cond (.t 7) (.reg 4 2 [.mk (.some 8) (.pur
 (.mki 9) [.k (.string (ByteArray.mk (Array.mk [115,108,105,99,101,115,46,77,105,110,58,32,101,109,112,116,121,32,
 108,105,115,116])))]) .none 4 .none .false [] .false,o2 (.lenS (.k (.bool .true))) 5]) .skip)) (.seq (.reg 6 4 [o1 9 (.mv (.t 0)) 6,o1 10 (.iaddr 1 (.t 9) (.k (.int .i64 0))) 7,o1 11 (.load 1 .false (.t 10)) 8,o1 3 (.mv (.t 11)) 9]) (.seq (.seq (.reg 10 1 [o1 4 (.mv (.k (.int .i64 1))) 10]) (.block 0 (.loop (.seq
 (.seq (.reg 11 4 [o1 12 (.mv (.t 4)) 11,o1 13 (.mv (.t 0)) 12,o1 14 (.len (.t 13)) 13,o1 15 (.bin .lss (.t 12) (.t 14)) 14]) (.cond (.t 15) .skip (.exit 0))) (.seq (.block 1 (.reg 15 7 [o1 18 (.mv (.t 3)) 15,o1 19 (.mv (.t 0)) 16,o1 20 (.mv (.t 4)) 17,o1 21 (.iaddr 1 (.t 19) (.t 20)) 18,o1 22 (.load 1 .false (.t 21)) 19,o1 23 (.mm .false (.t 18) (.t 22)) 20,o1 3 (.mv (.t 23)) 21])) (.reg 22 3 [o1 16 (.mv (.t 4)) 22,o1 17 (.bin .add (.t 16) (.k (.int .i64 1))) 23,o1 4 (.mv (.t 17)) 24])))))) (.seq (.reg 25 2 [o1 24 (.mv (.t 3)) 25,o1 2 (.mv (.t 24)) 26]) .ret))))
def rs69:List IRes:=[.tmp 2]
set_option maxRecDepth 100000 in
theorem comp69:Comp Try.prog 69 ir69 rs69 25:=⟨⟨_,_,27,Try.func69,rfl,by kernel_rfl,by kernel_rfl,rfl⟩⟩
theorem body69:HasBody Try.prog 69:=hasBody_of (by kernel_rfl)

def ir70:IC :=
 .seq (.reg 0 1 [o1 2 (.mv (.k (.int .i64 0))) 0]) (.seq (.seq (.reg 1 3 [o1 5 (.mv (.t 0)) 1,o1 6 (.len (.t 5)) 2,o1 7 (.bin .lss (.t 6) (.k (.int .i64 1))) 3]) (.cond (.t 7) (.reg 4 2 [.mk (.some 8) (.pur
 (.mki 9) [.k (.string (ByteArray.mk (Array.mk [115,108,105,99,101,115,46,77,97,120,58,32,101,109,112,116,121,32,
 108,105,115,116])))]) .none 4 .none .false [] .false,o2 (.lenS (.k (.bool .true))) 5]) .skip)) (.seq (.reg 6 4 [o1 9 (.mv (.t 0)) 6,o1 10 (.iaddr 1 (.t 9) (.k (.int .i64 0))) 7,o1 11 (.load 1 .false (.t 10)) 8,o1 3 (.mv (.t 11)) 9]) (.seq (.seq (.reg 10 1 [o1 4 (.mv (.k (.int .i64 1))) 10]) (.block 0 (.loop (.seq
 (.seq (.reg 11 4 [o1 12 (.mv (.t 4)) 11,o1 13 (.mv (.t 0)) 12,o1 14 (.len (.t 13)) 13,o1 15 (.bin .lss (.t 12) (.t 14)) 14]) (.cond (.t 15) .skip (.exit 0))) (.seq (.block 1 (.reg 15 7 [o1 18 (.mv (.t 3)) 15,o1 19 (.mv (.t 0)) 16,o1 20 (.mv (.t 4)) 17,o1 21 (.iaddr 1 (.t 19) (.t 20)) 18,o1 22 (.load 1 .false (.t 21)) 19,o1 23 (.mm .true (.t 18) (.t 22)) 20,o1 3 (.mv (.t 23)) 21])) (.reg 22 3 [o1 16 (.mv (.t 4)) 22,o1 17 (.bin .add (.t 16) (.k (.int .i64 1))) 23,o1 4 (.mv (.t 17)) 24])))))) (.seq (.reg 25 2 [o1 24 (.mv (.t 3)) 25,o1 2 (.mv (.t 24)) 26]) .ret))))
def rs70:List IRes:=[.tmp 2]
set_option maxRecDepth 100000 in
theorem comp70:Comp Try.prog 70 ir70 rs70 25:=⟨⟨_,_,27,Try.func70,rfl,by kernel_rfl,by kernel_rfl,rfl⟩⟩
theorem body70:HasBody Try.prog 70:=hasBody_of (by kernel_rfl)

def ir96:IC :=
 .seq (.reg 0 1 [o1 4 (.mv (.k (.bool .false))) 0]) (.seq (.reg 1 13 [o1 5 (.mv (.t 0)) 1,o1 6 (.call 114 [.t 5]) 2,o1 7 (.mv (.t 6)) 3, .mk (.some 8) (.mv (.t 1)) (.some (7, .true)) 4 .none .false []
 .false, .mk (.some 9) (.call 114 [.t 8]) (.some (7, .true)) 5 .none .false [] .false, .mk (.some 10) (.un .not (.t 9)) (.some (7, .true)) 6 .none .false [] .false,o1 11 (.pick (.t 7) (.t 10) (.k (.bool .false))) 7,o1 12 (.mv (.t 11)) 8, .mk (.some 13) (.mv (.t 0)) (.some (12,
 .false)) 9 .none .false [] .false, .mk (.some 14) (.mv (.t 1)) (.some (12, .false)) 10 .none .false [] .false, .mk (.some 15) (.bin .lss (.t 13) (.t 14)) (.some (12, .false)) 11
 .none .false [] .false,o1 16 (.pick (.t 12) (.k (.bool .true)) (.t 15)) 12,o1 4 (.mv (.t 16)) 13])
 .ret)
def rs96:List IRes:=[.tmp 4]
set_option maxRecDepth 100000 in
theorem comp96:Comp Try.prog 96 ir96 rs96 17:=⟨⟨_,_,14,Try.func96,rfl,by kernel_rfl,by kernel_rfl,rfl⟩⟩
theorem body96:HasBody Try.prog 96:=hasBody_of (by kernel_rfl)

end Go.Proofs.Ytgpfejgohclheaa
