/- The intermediate forms of functions of the program (printed by a program of mine), each checked against the code. The intermediate forms of functions of the program (printed by a program of mine), each checked against the code. The intermediate forms of functions of the program (printed by a program of mine), each checked against the code. Contracts with a ghost; published slices: lemmas for their use. Readings of values, typed; contracts by them. Layer 9: readings; the reference's functions on lists; which orders hold, which words are hidden. Layer 9: which orders hold, which words are hidden, what is shown (the reference). Layer 9: what is shown, and the view (the reference). Layer 9: the error of a report (the reference). Layer 9: whether some orders hide as much (the reference); lists. -/
import Derived.Test.YtpcpjmplgladmaaMC
import Derived.Test.YtpcpjmplgladmaaProg
import Derived.KernelRfl
import Derived.WalkSpells
import Derived.Test.YtpcpjmplgladmaaMD
import Derived.Laws.Entries
set_option linter.unusedSimpArgs false
set_option linter.unusedVariables false
namespace Go.Proofs.Ytpcpjmplgladmaa
open Go.Pal
def ir14:IC :=
 .seq (.reg 0 1 [o1 0 (.mv (.k (.bool .false))) 0]) (.seq (.reg 1 8 [o1 10 (.call 42 []) 1,o1 11 (.call 43 [.k (.int .i64 1970), .k (.slice .none 0 0)]) 2,o1 12 (.call 28 [.t 10, .t 11]) 3,o1 9 (.mv (.t 12)) 4,o1 13 (.ext (.t 9) 0) 5,o1 14 (.ext (.t 9) 1) 6,o1 1 (.mv (.t 13)) 7,o1 2 (.mv (.t 14)) 8]) (.seq (.reg 9 9 [o1 16 (.call 42 []) 9,o1 17 (.bsl 3 1 1 [.int .i64 0] [(0, .k (.int .i64 1))]) 10,o1 18 (.call 43 [.k (.int .i64 1970), .t 17]) 11,o1 19 (.call 15 [.t 16, .t 18]) 12,o1 15 (.mv (.t 19)) 13,o1 20 (.ext (.t 15) 0) 14,o1 21 (.ext (.t 15) 1) 15,o1 3 (.mv (.t 20)) 16,o1 4 (.mv (.t 21)) 17]) (.seq (.reg 18 8 [o1 23 (.call 42 []) 18,o1 24 (.call 43 [.k (.int .i64 1970), .k (.slice .none 0 0)]) 19,o1 25 (.call 21 [.t 23, .t 24]) 20,o1 22 (.mv (.t 25)) 21,o1 26 (.ext (.t 22) 0) 22,o1 27 (.ext (.t 22) 1) 23,o1 5 (.mv (.t 26)) 24,o1 6 (.mv (.t 27)) 25]) (.seq (.reg 26 8 [o1 29 (.call 42 []) 26,o1 30 (.call 43 [.k (.int .i64 1970), .k (.slice .none 0 0)]) 27,o1 31 (.call 37 [.t 29, .t 30]) 28,o1 28 (.mv (.t 31)) 29,o1 32 (.ext (.t 28) 0) 30,o1 33 (.ext (.t 28) 1) 31,o1 7 (.mv (.t 32)) 32,o1 8 (.mv (.t 33)) 33]) (.seq (.reg 34 52 [o1 34 (.mv (.t 2)) 34,o1 35 (.bin .eql (.t 34) (.k (.int .i64 0))) 35,o1 36 (.mv (.t 35)) 36, .mk (.some 37) (.mv (.t 4)) (.some (36, .true)) 37 .none .false [] .false, .mk (.some 38) (.bin .eql (.t 37) (.k (.int .i64 0))) (.some (36, .true)) 38 .none .false []
 .false,o1 39 (.pick (.t 36) (.t 38) (.k (.bool .false))) 39,o1 40 (.mv (.t 39)) 40, .mk (.some 41)
 (.mv (.t 6)) (.some (40, .true)) 41 .none .false [] .false, .mk (.some 42) (.bin .eql (.t 41) (.k (.int .i64 0))) (.some (40, .true)) 42 .none .false [] .false,o1 43 (.pick (.t 40) (.t 42) (.k (.bool .false))) 43,o1 44 (.mv (.t 43)) 44, .mk (.some 45) (.mv (.t 8)) (.some (44,
 .true)) 45 .none .false [] .false, .mk (.some 46) (.bin .eql (.t 45) (.k (.int .i64 0))) (.some (44, .true)) 46 .none .false [] .false,o1 47 (.pick (.t 44) (.t 46) (.k (.bool .false))) 47,o1 48 (.mv (.t 47)) 48, .mk (.some 49) (.mv (.t 1)) (.some (48, .true)) 49 .none .false []
 .false, .mk (.some 50) (.bld [(0,1),(1,1)] [.string (ByteArray.mk (Array.mk [])), .int .i64 0] [(0, .k (.string (ByteArray.mk (Array.mk [119,101])))),(1, .k (.int .i64 1))])
 (.some (48, .true)) 50 .none .false [] .false, .mk (.some 51) (.bld [(0,1),(1,1)] [.string (ByteArray.mk (Array.mk [])), .int .i64 0] [(0, .k (.string (ByteArray.mk (Array.mk
 [109,101,116])))),(1, .k (.int .i64 1))]) (.some (48, .true)) 51 .none .false [] .false, .mk (.some 52) (.bld [(0,1),(1,1)] [.string (ByteArray.mk (Array.mk [])), .int .i64
 0] [(0, .k (.string (ByteArray.mk (Array.mk [116,104,101])))),(1, .k (.int .i64 1))]) (.some (48, .true)) 52 .none .false [] .false, .mk (.some 53) (.bld [(0,1),(1,1)]
 [.string (ByteArray.mk (Array.mk [])), .int .i64 0] [(1, .k (.int .i64 2))]) (.some (48, .true)) 53 .none .false [] .false, .mk (.some 54) (.bld [(0,1),(1,1)] [.string
 (ByteArray.mk (Array.mk [])), .int .i64 0] [(0, .k (.string (ByteArray.mk (Array.mk [116,111,100,97,121])))),(1, .k (.int .i64 2))]) (.some (48, .true)) 54 .none .false []
 .false, .mk (.some 55) (.bsl 79 2 5 [.string (ByteArray.mk (Array.mk [])), .int .i64 0, .string (ByteArray.mk (Array.mk [])), .int .i64 0, .string (ByteArray.mk (Array.mk [])),
 .int .i64 0, .string (ByteArray.mk (Array.mk [])), .int .i64 0, .string (ByteArray.mk (Array.mk [])), .int .i64 0] [(0, .t 50),(1, .t 51),(2, .t 52),(3, .t 53),(4, .t 54)])
 (.some (48, .true)) 55 .none .false [] .false, .mk (.some 56) (.call 29 [.t 49, .t 55]) (.some (48, .true)) 56 .none .false [] .false,o1 57 (.pick (.t 48) (.t 56) (.k (.bool .false))) 57,o1 58 (.mv (.t 57)) 58, .mk (.some 59) (.mv (.t 3)) (.some (58, .true)) 59 .none .false []
 .false, .mk (.some 60) (.bsl 3 1 1 [.int .i64 0] [(0, .k (.int .i64 2))]) (.some (58, .true)) 60 .none .false [] .false, .mk (.some 61) (.bld [(0,1),(1,1)] [.int .i64 0, .slice
 .none 0 0] [(0, .k (.int .i64 3)),(1, .t 60)]) (.some (58, .true)) 61 .none .false [] .false, .mk (.some 62) (.bsl 3 1 1 [.int .i64 0] [(0, .k (.int .i64 2))]) (.some (58,
 .true)) 62 .none .false [] .false, .mk (.some 63) (.bld [(0,1),(1,1)] [.int .i64 0, .slice .none 0 0] [(0, .k (.int .i64 5)),(1, .t 62)]) (.some (58, .true)) 63 .none .false
 [] .false, .mk (.some 64) (.bsl 3 1 1 [.int .i64 0] [(0, .k (.int .i64 2))]) (.some (58, .true)) 64 .none .false [] .false, .mk (.some 65) (.bld [(0,1),(1,1)] [.int .i64 0,
 .slice .none 0 0] [(0, .k (.int .i64 8)),(1, .t 64)]) (.some (58, .true)) 65 .none .false [] .false, .mk (.some 66) (.bsl 47 2 3 [.int .i64 0, .slice .none 0 0, .int .i64 0,
 .slice .none 0 0, .int .i64 0, .slice .none 0 0] [(0, .t 61),(1, .t 63),(2, .t 65)]) (.some (58, .true)) 66 .none .false [] .false, .mk (.some 67) (.call 20 [.t 59, .t 66])
 (.some (58, .true)) 67 .none .false [] .false,o1 68 (.pick (.t 58) (.t 67) (.k (.bool .false))) 68,o1 69 (.mv (.t 68)) 69, .mk (.some 70) (.mv (.t 5)) (.some (69, .true)) 70 .none .false [] .false, .mk (.some 71) (.len (.t 70)) (.some (69, .true)) 71 .none .false [] .false, .mk
 (.some 72) (.bin .eql (.t 71) (.k (.int .i64 1))) (.some (69, .true)) 72 .none .false [] .false,o1 73 (.pick (.t 69) (.t 72) (.k (.bool .false))) 73,o1 74 (.mv (.t 73)) 74, .mk (.some 75) (.mv (.t 5)) (.some (74, .true)) 75 .none .false [] .false, .mk (.some 76) (.iaddr 3 (.t
 75) (.k (.int .i64 0))) (.some (74, .true)) 76 .none .false [] .false, .mk (.some 77) (.load 3 .true (.t 76)) (.some (74, .true)) 77 .none .false [] .false, .mk (.some 78) (.bld
 [(0,1),(1,1),(2,1)] [.int .i64 0, .int .i64 0, .int .i64 0] [(0, .k (.int .i64 3)),(1, .k (.int .i64 6)),(2, .k (.int .i64 1990))]) (.some (74, .true)) 78 .none .false []
 .false, .mk (.some 79) (.pur (.bin .eql 55) [.t 77, .t 78]) (.some (74, .true)) 79 .none .false [] .false,o1 80 (.pick (.t 74) (.t 79) (.k (.bool .false))) 80,o1 81 (.mv (.t 80)) 81, .mk (.some 82) (.mv (.t 7)) (.some (81, .true)) 82 .none .false [] .false, .mk (.some 83)
 (.bin .eql (.t 82) (.k (.int .i64 2))) (.some (81, .true)) 83 .none .false [] .false,o1 84 (.pick (.t 81) (.t 83) (.k (.bool .false))) 84,
 o1 0 (.mv (.t 84)) 85]) .ret)))))
def rs14:List IRes:=[.tmp 0]
set_option maxRecDepth 100000 in
theorem comp14:Comp Try.prog 14 ir14 rs14 85:=⟨⟨_,_,86,Try.func14,rfl,by kernel_rfl,by kernel_rfl,rfl⟩⟩
theorem body14:HasBody Try.prog 14:=hasBody_of (by kernel_rfl)

def ir42:IC :=
 .seq (.reg 0 1 [o1 0 (.alloc 38 [.slice .none 0 0, .slice .none 0 0, .int .i64 0]) 0]) (.seq (.reg 1 17 [.mk (.some 1) (.bld [(0,1),(1,1)]
 [.string (ByteArray.mk (Array.mk [])), .slice .none 0 0] [(0, .k (.string (ByteArray.mk (Array.mk [119,101]))))]) .none 1 .none .false [] .false, .mk (.some 2) (.bld [(0,1),(1,
 1)] [.string (ByteArray.mk (Array.mk [])), .slice .none 0 0] [(0, .k (.string (ByteArray.mk (Array.mk [109,101,116]))))]) .none 2 .none .false [] .false, .mk (.some 3) (.bld
 [(0,1),(1,1)] [.string (ByteArray.mk (Array.mk [])), .slice .none 0 0] [(0, .k (.string (ByteArray.mk (Array.mk [116,104,101]))))]) .none 3 .none .false [] .false,o1 4 (.bsl 3 1 2 [.int .i64 0, .int .i64 0] [(0, .k (.int .i64 3)),(1, .k (.int .i64 5))]) 4, .mk (.some 5) (.bld [(0,1),(1,1)] [.string
 (ByteArray.mk (Array.mk [])), .slice .none 0 0] [(0, .k (.string (ByteArray.mk (Array.mk [101,110,118,111,121])))),(1, .t 4)]) .none 5 .none .false [] .false, .mk (.some 6)
 (.bld [(0,1),(1,1)] [.string (ByteArray.mk (Array.mk [])), .slice .none 0 0] [(0, .k (.string (ByteArray.mk (Array.mk [105,110]))))]) .none 6 .none .false [] .false,o1 7 (.bsl 3 1 1 [.int .i64 0] [(0, .k (.int .i64 5))]) 7, .mk (.some 8) (.bld [(0,1),(1,1)] [.string (ByteArray.mk (Array.mk [])), .slice
 .none 0 0] [(0, .k (.string (ByteArray.mk (Array.mk [66,101,114,110])))),(1, .t 7)]) .none 8 .none .false [] .false,o1 9 (.bsl 3 1 1 [.int .i64 0] [(0, .k (.int .i64 8))]) 9, .mk (.some 10) (.bld [(0,1),(1,1)] [.string (ByteArray.mk (Array.mk [])), .slice .none 0 0] [(0, .k (.string (ByteArray.mk (Array.mk [116,
 111,100,97,121])))),(1, .t 9)]) .none 10 .none .false [] .false, .mk (.some 11) (.bsl 104 2 7 [.string (ByteArray.mk (Array.mk [])), .slice .none 0 0, .string (ByteArray.mk
 (Array.mk [])), .slice .none 0 0, .string (ByteArray.mk (Array.mk [])), .slice .none 0 0, .string (ByteArray.mk (Array.mk [])), .slice .none 0 0, .string (ByteArray.mk (Array.mk
 [])), .slice .none 0 0, .string (ByteArray.mk (Array.mk [])), .slice .none 0 0, .string (ByteArray.mk (Array.mk [])), .slice .none 0 0] [(0, .t 1),(1, .t 2),(2, .t 3),(3, .t
 5),(4, .t 6),(5, .t 8),(6, .t 10)]) .none 11 .none .false [] .false,o1 12 (.bld [(0,1),(1,1),(2,1),(3,1)] [.int .i64 0, .int .i64 0, .int .i64 0, .int .i64 0] [(0, .k (.int .i64 3)),(1, .k (.int .i64 4)),(2, .k (.int .i64 1)),(3, .k (.int .i64 1990))]) 12,o1 13 (.bld [(0,1),(1,1),(2,1),(3,1)] [.int .i64 0, .int .i64 0, .int .i64 0, .int .i64 0] [(0, .k (.int .i64 4)),(1, .k (.int .i64 6)),(2, .k (.int .i64 2)),(3, .k (.int .i64 1980))]) 13,o1 14 (.bld [(0,1),(1,1),(2,1),(3,1)] [.int .i64 0, .int .i64 0, .int .i64 0, .int .i64 0] [(0, .k (.int .i64 5)),(1, .k (.int .i64 6)),(2, .k (.int .i64 1)),(3, .k (.int .i64 1975))]) 14,o1 15 (.bsl 65 4 3 [.int .i64 0, .int .i64 0, .int .i64 0, .int .i64 0, .int .i64 0, .int .i64 0, .int .i64 0, .int .i64 0, .int .i64 0, .int .i64 0, .int .i64 0, .int .i64 0] [(0, .t 12),(1, .t 13),(2, .t 14)]) 15,o1 16 (.bld [(0,1),(1,1),(2,1)] [.slice .none 0 0, .slice .none 0 0, .int .i64 0] [(2, .k (.int .i64 3)),(0, .t 11),(1, .t 15)]) 16,o2 (.store 3 (.t 0) (.t 16)) 17]) .ret)
def rs42:List IRes:=[.cell 0 3 .true]
set_option maxRecDepth 100000 in
theorem comp42:Comp Try.prog 42 ir42 rs42 17:=⟨⟨_,_,18,Try.func42,rfl,by kernel_rfl,by kernel_rfl,rfl⟩⟩
theorem body42:HasBody Try.prog 42:=hasBody_of (by kernel_rfl)

def ir43:IC :=
 .seq (.reg 0 1 [o1 4 (.alloc 40 [.int .i64 0, .slice .none 0 0]) 0]) (.seq (.reg 1 4 [o1 5 (.mv (.t 0)) 1,o1 6 (.mv (.t 1)) 2,o1 7 (.bld [(0,1),(1,1)] [.int .i64 0, .slice .none 0 0] [(0, .t 5),(1, .t 6)]) 3,o2 (.store 2 (.t 4) (.t 7)) 4]) .ret)
def rs43:List IRes:=[.cell 4 2 .true]
set_option maxRecDepth 100000 in
theorem comp43:Comp Try.prog 43 ir43 rs43 8:=⟨⟨_,_,5,Try.func43,rfl,by kernel_rfl,by kernel_rfl,rfl⟩⟩
theorem body43:HasBody Try.prog 43:=hasBody_of (by kernel_rfl)

end Go.Proofs.Ytpcpjmplgladmaa

namespace Go.Proofs.Ytpcpjmplgladmaa
open Go.Pal
def ir57:IC :=
 .seq (.reg 0 2 [o1 1 (.box 104 (.t 0)) 0,o1 2 (.mv (.k (.bool .false))) 1]) (.seq (.reg 2 5 [o1 3 (.faddr 1 (.t 1)) 2,o1 4 (.load 1 .false (.t 3)) 3,o1 5 (.len (.t 4)) 4,o1 6 (.bin .leq (.t 5) (.k (.int .i64 5))) 5,o1 2 (.mv (.t 6)) 6]) .ret)
def rs57:List IRes:=[.tmp 2]
set_option maxRecDepth 100000 in
theorem comp57:Comp Try.prog 57 ir57 rs57 7:=⟨⟨_,_,7,Try.func57,rfl,by kernel_rfl,by kernel_rfl,rfl⟩⟩
theorem body57:HasBody Try.prog 57:=hasBody_of (by kernel_rfl)

def ir79:IC :=
 .seq (.reg 0 1 [o1 2 (.mv (.k (.bool .false))) 0]) (.seq (.reg 1 7 [o1 3 (.mv (.t 0)) 1,o1 4 (.bin .leq (.k (.int .u8 33)) (.t 3)) 2,o1 5 (.mv (.t 4)) 3, .mk (.some 6) (.mv (.t 0)) (.some (5, .true)) 4
 .none .false [] .false, .mk (.some 7) (.bin .leq (.t 6) (.k (.int .u8 126))) (.some (5, .true)) 5 .none .false [] .false,o1 8 (.pick (.t 5) (.t 7) (.k (.bool .false))) 6,o1 2 (.mv (.t 8)) 7]) .ret)
def rs79:List IRes:=[.tmp 2]
set_option maxRecDepth 100000 in
theorem comp79:Comp Try.prog 79 ir79 rs79 9:=⟨⟨_,_,8,Try.func79,rfl,by kernel_rfl,by kernel_rfl,rfl⟩⟩
theorem body79:HasBody Try.prog 79:=hasBody_of (by kernel_rfl)

def ir78:IC :=
 .seq (.reg 0 2 [o1 3 (.box 130 (.t 1)) 0,o1 4 (.mv (.k (.bool .false))) 1]) (.seq (.reg 2 5 [o1 5 (.mv (.t 0)) 2,o1 6 (.mkf 87 [] [.t 3]) 3,o1 7 (.call 86 [.t 5, .t 6]) 4,o1 8 (.un .not (.t 7)) 5,o1 4 (.mv (.t 8)) 6]) .ret)
def rs78:List IRes:=[.tmp 4]
set_option maxRecDepth 100000 in
theorem comp78:Comp Try.prog 78 ir78 rs78 9:=⟨⟨_,_,7,Try.func78,rfl,by kernel_rfl,by kernel_rfl,rfl⟩⟩
theorem body78:HasBody Try.prog 78:=hasBody_of (by kernel_rfl)

def ir77:IC :=
 .seq (.reg 1 2 [o1 2 (.box 104 (.t 0)) 1,o1 3 (.mv (.k (.bool .false))) 2]) (.seq (.reg 3 5 [o1 4 (.load 1 .false (.t 1)) 3,o1 5 (.load 2 .true (.t 2)) 4,o1 6 (.callv (.t 4) [.t 5]) 5,o1 7 (.un .not (.t 6)) 6,o1 3 (.mv (.t 7)) 7]) .ret)
def rs77:List IRes:=[.tmp 3]
set_option maxRecDepth 100000 in
theorem comp77:CompAt Try.prog 77 1 ir77 rs77 8:=⟨⟨_,_,8,Try.func77,rfl,by kernel_rfl,by kernel_rfl,rfl⟩⟩
theorem body77:HasBody Try.prog 77:=hasBody_of (by kernel_rfl)

def ir76:IC :=
 .seq (.reg 1 1 [o1 4 (.mv (.k (.bool .false))) 1]) (.seq (.reg 2 5 [o1 5 (.mv (.t 0)) 2,o1 6 (.mv (.t 1)) 3,o1 7 (.call 85 [.t 5, .t 6]) 4,o1 8 (.bin .geq (.t 7) (.k (.int .i64 0))) 5,o1 4 (.mv (.t 8)) 6]) .ret)
def rs76:List IRes:=[.tmp 4]
set_option maxRecDepth 100000 in
theorem comp76:CompAt Try.prog 76 1 ir76 rs76 9:=⟨⟨_,_,7,Try.func76,rfl,by kernel_rfl,by kernel_rfl,rfl⟩⟩
theorem body76:HasBody Try.prog 76:=hasBody_of (by kernel_rfl)

def ir85:IC :=
 .seq (.reg 1 1 [o1 4 (.mv (.k (.int .i64 0))) 1]) (.seq (.seq (.reg 2 3 [o1 6 (.mv (.t 0)) 2,o1 7 (.len (.t 6)) 3,o1 8 (.mv (.k (.int .i64 0))) 4]) (.block 0 (.loop (.seq (.reg 5 1 [o1 9 (.bin .lss (.t 8) (.t 7)) 5]) (.seq (.cond (.t 9) .skip (.exit 0)) (.seq (.block 1 (.seq (.reg 6 2 [o1 10 (.mv (.t 8)) 6,
 o1 5 (.mv (.t 10)) 7]) (.seq (.reg 8 6 [o1 11 (.mv (.t 1)) 8,o1 12 (.mv (.t 0)) 9,o1 13 (.mv (.t 5)) 10,o1 14 (.iaddr 2 (.t 12) (.t 13)) 11,o1 15 (.load 2 .true (.t 14)) 12,o1 16 (.callv (.t 11) [.t 15]) 13]) (.cond (.t 16) (.seq (.reg 14 2 [o1 17 (.mv (.t 5)) 14,o1 4 (.mv (.t 17)) 15]) .ret) .skip)))) (.reg 16 2 [o1 18 (.bin .add (.t 8) (.k (.int .i64 1))) 16,o1 8 (.mv (.t 18)) 17]))))))) (.seq (.reg 18 1 [o1 4 (.mv (.k (.int .i64 (-1)))) 18]) .ret))
def rs85:List IRes:=[.tmp 4]
set_option maxRecDepth 100000 in
theorem comp85:CompAt Try.prog 85 1 ir85 rs85 19:=⟨⟨_,_,19,Try.func85,rfl,by kernel_rfl,by kernel_rfl,rfl⟩⟩
theorem body85:HasBody Try.prog 85:=hasBody_of (by kernel_rfl)

def ir81:IC :=
 .seq (.reg 2 2 [o1 2 (.box 65 (.t 0)) 2,o1 3 (.mv (.k (.bool .false))) 3]) (.seq (.reg 4 5 [o1 4 (.load 1 .false (.t 1)) 4,o1 5 (.load 4 .true (.t 2)) 5,o1 6 (.callv (.t 4) [.t 5]) 6,o1 7 (.un .not (.t 6)) 7,o1 3 (.mv (.t 7)) 8]) .ret)
def rs81:List IRes:=[.tmp 3]
set_option maxRecDepth 100000 in
theorem comp81:CompAt Try.prog 81 2 ir81 rs81 8:=⟨⟨_,_,9,Try.func81,rfl,by kernel_rfl,by kernel_rfl,rfl⟩⟩
theorem body81:HasBody Try.prog 81:=hasBody_of (by kernel_rfl)

def ir80:IC :=
 .seq (.reg 2 1 [o1 4 (.mv (.k (.bool .false))) 2]) (.seq (.reg 3 5 [o1 5 (.mv (.t 0)) 3,o1 6 (.mv (.t 1)) 4,o1 7 (.call 88 [.t 5, .t 6]) 5,o1 8 (.bin .geq (.t 7) (.k (.int .i64 0))) 6,o1 4 (.mv (.t 8)) 7]) .ret)
def rs80:List IRes:=[.tmp 4]
set_option maxRecDepth 100000 in
theorem comp80:CompAt Try.prog 80 2 ir80 rs80 9:=⟨⟨_,_,8,Try.func80,rfl,by kernel_rfl,by kernel_rfl,rfl⟩⟩
theorem body80:HasBody Try.prog 80:=hasBody_of (by kernel_rfl)

def ir88:IC :=
 .seq (.reg 2 1 [o1 4 (.mv (.k (.int .i64 0))) 2]) (.seq (.seq (.reg 3 3 [o1 6 (.mv (.t 0)) 3,o1 7 (.len (.t 6)) 4,o1 8 (.mv (.k (.int .i64 0))) 5]) (.block 0 (.loop (.seq (.reg 6 1 [o1 9 (.bin .lss (.t 8) (.t 7)) 6]) (.seq (.cond (.t 9) .skip (.exit 0)) (.seq (.block 1 (.seq (.reg 7 2 [o1 10 (.mv (.t 8)) 7,
 o1 5 (.mv (.t 10)) 8]) (.seq (.reg 9 6 [o1 11 (.mv (.t 1)) 9,o1 12 (.mv (.t 0)) 10,o1 13 (.mv (.t 5)) 11,o1 14 (.iaddr 4 (.t 12) (.t 13)) 12,o1 15 (.load 4 .true (.t 14)) 13,o1 16 (.callv (.t 11) [.t 15]) 14]) (.cond (.t 16) (.seq (.reg 15 2 [o1 17 (.mv (.t 5)) 15,o1 4 (.mv (.t 17)) 16]) .ret) .skip)))) (.reg 17 2 [o1 18 (.bin .add (.t 8) (.k (.int .i64 1))) 17,o1 8 (.mv (.t 18)) 18]))))))) (.seq (.reg 19 1 [o1 4 (.mv (.k (.int .i64 (-1)))) 19]) .ret))
def rs88:List IRes:=[.tmp 4]
set_option maxRecDepth 100000 in
theorem comp88:CompAt Try.prog 88 2 ir88 rs88 19:=⟨⟨_,_,20,Try.func88,rfl,by kernel_rfl,by kernel_rfl,rfl⟩⟩
theorem body88:HasBody Try.prog 88:=hasBody_of (by kernel_rfl)

def ir87:IC :=
 .seq (.reg 1 1 [o1 3 (.mv (.k (.bool .false))) 1]) (.seq (.reg 2 5 [o1 4 (.load 1 .false (.t 1)) 2,o1 5 (.mv (.t 0)) 3,o1 6 (.callv (.t 4) [.t 5]) 4,o1 7 (.un .not (.t 6)) 5,o1 3 (.mv (.t 7)) 6]) .ret)
def rs87:List IRes:=[.tmp 3]
set_option maxRecDepth 100000 in
theorem comp87:CompAt Try.prog 87 1 ir87 rs87 8:=⟨⟨_,_,7,Try.func87,rfl,by kernel_rfl,by kernel_rfl,rfl⟩⟩
theorem body87:HasBody Try.prog 87:=hasBody_of (by kernel_rfl)

def ir86:IC :=
 .seq (.reg 1 1 [o1 4 (.mv (.k (.bool .false))) 1]) (.seq (.reg 2 5 [o1 5 (.mv (.t 0)) 2,o1 6 (.mv (.t 1)) 3,o1 7 (.call 100 [.t 5, .t 6]) 4,o1 8 (.bin .geq (.t 7) (.k (.int .i64 0))) 5,o1 4 (.mv (.t 8)) 6]) .ret)
def rs86:List IRes:=[.tmp 4]
set_option maxRecDepth 100000 in
theorem comp86:CompAt Try.prog 86 1 ir86 rs86 9:=⟨⟨_,_,7,Try.func86,rfl,by kernel_rfl,by kernel_rfl,rfl⟩⟩
theorem body86:HasBody Try.prog 86:=hasBody_of (by kernel_rfl)

def ir100:IC :=
 .seq (.reg 1 1 [o1 4 (.mv (.k (.int .i64 0))) 1]) (.seq (.seq (.reg 2 3 [o1 6 (.mv (.t 0)) 2,o1 7 (.len (.t 6)) 3,o1 8 (.mv (.k (.int .i64 0))) 4]) (.block 0 (.loop (.seq (.reg 5 1 [o1 9 (.bin .lss (.t 8) (.t 7)) 5]) (.seq (.cond (.t 9) .skip (.exit 0)) (.seq (.block 1 (.seq (.reg 6 2 [o1 10 (.mv (.t 8)) 6,
 o1 5 (.mv (.t 10)) 7]) (.seq (.reg 8 6 [o1 11 (.mv (.t 1)) 8,o1 12 (.mv (.t 0)) 9,o1 13 (.mv (.t 5)) 10,o1 14 (.iaddr 1 (.t 12) (.t 13)) 11,o1 15 (.load 1 .false (.t 14)) 12,o1 16 (.callv (.t 11) [.t 15]) 13]) (.cond (.t 16) (.seq (.reg 14 2 [o1 17 (.mv (.t 5)) 14,o1 4 (.mv (.t 17)) 15]) .ret) .skip)))) (.reg 16 2 [o1 18 (.bin .add (.t 8) (.k (.int .i64 1))) 16,o1 8 (.mv (.t 18)) 17]))))))) (.seq (.reg 18 1 [o1 4 (.mv (.k (.int .i64 (-1)))) 18]) .ret))
def rs100:List IRes:=[.tmp 4]
set_option maxRecDepth 100000 in
theorem comp100:CompAt Try.prog 100 1 ir100 rs100 19:=⟨⟨_,_,19,Try.func100,rfl,by kernel_rfl,by kernel_rfl,rfl⟩⟩
theorem body100:HasBody Try.prog 100:=hasBody_of (by kernel_rfl)

def ir54:IC :=
 .seq (.reg 1 2 [o1 2 (.box 65 (.t 0)) 1,o1 3 (.mv (.k (.bool .false))) 2]) (.seq (.reg 3 29 [o1 4 (.faddr 0 (.t 2)) 3,o1 5 (.load 1 .false (.t 4)) 4,o1 6 (.bin .leq (.k (.int .i64 0)) (.t 5)) 5,o1 7 (.mv (.t 6)) 6, .mk (.some 8) (.faddr 0 (.t 2)) (.some (7, .true)) 7 .none .false [] .false, .mk (.some
 9) (.load 1 .false (.t 8)) (.some (7, .true)) 8 .none .false [] .false, .mk (.some 10) (.faddr 1 (.t 2)) (.some (7, .true)) 9 .none .false [] .false, .mk (.some 11) (.load 1
 .false (.t 10)) (.some (7, .true)) 10 .none .false [] .false, .mk (.some 12) (.bin .lss (.t 9) (.t 11)) (.some (7, .true)) 11 .none .false [] .false,o1 13 (.pick (.t 7) (.t 12) (.k (.bool .false))) 12,o1 14 (.mv (.t 13)) 13, .mk (.some 15) (.faddr 1 (.t 2)) (.some (14, .true)) 14
 .none .false [] .false, .mk (.some 16) (.load 1 .false (.t 15)) (.some (14, .true)) 15 .none .false [] .false, .mk (.some 17) (.faddr 0 (.t 1)) (.some (14, .true)) 16 .none .false
 [] .false, .mk (.some 18) (.load 1 .false (.t 17)) (.some (14, .true)) 17 .none .false [] .false, .mk (.some 19) (.len (.t 18)) (.some (14, .true)) 18 .none .false [] .false, .mk
 (.some 20) (.bin .leq (.t 16) (.t 19)) (.some (14, .true)) 19 .none .false [] .false,o1 21 (.pick (.t 14) (.t 20) (.k (.bool .false))) 20,
 o1 22 (.mv (.t 21)) 21, .mk (.some 23) (.faddr 2 (.t 2)) (.some (22, .true)) 22 .none .false [] .false, .mk (.some 24) (.load 1 .false (.t
 23)) (.some (22, .true)) 23 .none .false [] .false, .mk (.some 25) (.call 51 [.t 24, .k (.int .i64 0), .k (.int .i64 7)]) (.some (22, .true)) 24 .none .false [] .false,o1 26 (.pick (.t 22) (.t 25) (.k (.bool .false))) 25,o1 27 (.mv (.t 26)) 26, .mk (.some 28) (.faddr 3 (.t 2))
 (.some (27, .true)) 27 .none .false [] .false, .mk (.some 29) (.load 1 .false (.t 28)) (.some (27, .true)) 28 .none .false [] .false, .mk (.some 30) (.call 55 [.t 29]) (.some (27,
 .true)) 29 .none .false [] .false,o1 31 (.pick (.t 27) (.t 30) (.k (.bool .false))) 30,o1 3 (.mv (.t 31)) 31]) .ret)
def rs54:List IRes:=[.tmp 3]
set_option maxRecDepth 100000 in
theorem comp54:CompAt Try.prog 54 1 ir54 rs54 32:=⟨⟨_,_,32,Try.func54,rfl,by kernel_rfl,by kernel_rfl,rfl⟩⟩
theorem body54:HasBody Try.prog 54:=hasBody_of (by kernel_rfl)

def ir70:IC :=
 .seq (.reg 0 1 [o1 3 (.mv (.k (.int .i64 0))) 0]) (.seq (.reg 1 5 [o1 8 (.faddr 0 (.t 1)) 1,o1 9 (.faddr 0 (.t 8)) 2,o1 10 (.load 1 .false (.t 9)) 3,o1 11 (.len (.t 10)) 4,o1 12 (.mv (.k (.int .i64 0))) 5]) (.block 0 (.loop (.seq (.reg 6 1 [o1 13 (.bin .lss (.t 12) (.t 11)) 6]) (.seq (.cond (.t 13) .skip (.exit 0)) (.seq (.block 1 (.seq (.reg 7 6 [o1 14 (.mv (.t 12)) 7,o1 15 (.iaddr 2 (.t 10) (.t 12)) 8,o1 16 (.load 2 .true (.t 15)) 9, .mk (.some 5) (.alloc 104 [.string (ByteArray.mk (Array.mk [])),
 .slice .none 0 0]) .none 10 .none .false [] .false,o1 4 (.mv (.t 14)) 11,o2 (.store 2 (.t 5) (.t 16)) 12]) (.seq (.draw 13 13 [] [] [o3 17 (.faddr 0 (.t 5)) 13,o3 18 (.load 1 .false (.t 17)) 14,o3 19 (.mv (.t 3)) 15,o3 20 (.faddr 0 (.t 1)) 16,o3 21 (.faddr 2 (.t 20)) 17,o3 22 (.load 1 .false (.t 21)) 18,o3 23 (.bin .quo (.t 19) (.t 22)) 19,o3 24 (.bin .add (.t 23) (.k (.int .i64 1))) 20, .mk (.some 25) (.bld [(0,1),(1,1)] [.string (ByteArray.mk (Array.mk
 [])), .int .i64 0] [(0, .t 18),(1, .t 24)]) .none 21 (.some []) .true [] .false,o3 26 (.mv (.t 4)) 22, .mk (.some 6) (.alloc 79
 [.string (ByteArray.mk (Array.mk [])), .int .i64 0]) .none 23 (.some []) .true [] .false, .mk .none (.store 2 (.t 6) (.t 25)) .none 24 (.some [23]) .true [] .false, .mk (.some 7)
 (.mv (.t 26)) .none 25 (.some [23]) .true [] .false]) (.seq (.seq (.reg 26 4 [o1 27 (.mv (.t 4)) 26,o1 28 (.faddr 5 (.t 1)) 27,o1 29 (.aaddr 1 60 (.t 28) (.t 27)) 28,o1 30 (.load 1 .false (.t 29)) 29])
 (.cond (.t 30) (.seq (.seq (.reg 30 9 [o1 31 (.mv (.t 4)) 30,o1 32 (.bin .gtr (.t 31) (.k (.int .i64 0))) 31,o1 33 (.mv (.t 32)) 32, .mk (.some 34) (.mv (.t 4)) (.some (33, .true)) 33 .none .false [] .false, .mk (.some 35) (.bin .sub (.t 34)
 (.k (.int .i64 1))) (.some (33, .true)) 34 .none .false [] .false, .mk (.some 36) (.faddr 5 (.t 1)) (.some (33, .true)) 35 .none .false [] .false, .mk (.some 37) (.aaddr 1 60 (.t
 36) (.t 35)) (.some (33, .true)) 36 .none .false [] .false, .mk (.some 38) (.load 1 .false (.t 37)) (.some (33, .true)) 37 .none .false [] .false,o1 39 (.pick (.t 33) (.t 38) (.k (.bool .false))) 38]) (.cond (.t 39) (.exit 1) .skip)) (.reg 39 3 [o1 40 (.faddr 0 (.t 6)) 39, .mk
 .none (.store 1 (.t 40) (.k (.string (ByteArray.mk (Array.mk []))))) .none 40 .none .false [] .false,o1 7 (.mv (.k (.int .i64 (-1)))) 41]))
 .skip)) (.seq (.seq (.reg 42 5 [o1 41 (.mv (.t 0)) 42,o1 42 (.mv (.t 7)) 43,o1 43 (.load 2 .true (.t 6)) 44,o1 44 (.callv (.t 41) [.t 42, .t 43]) 45,o1 45 (.un .not (.t 44)) 46]) (.cond (.t 45) .ret .skip)) (.reg 47 3 [o1 46 (.mv (.t 3)) 47,o1 47 (.bin .add (.t 46) (.k (.int .i64 1))) 48,o1 3 (.mv (.t 47)) 49])))))) (.reg 50 2 [o1 48 (.bin .add (.t 12) (.k (.int .i64 1))) 50,o1 12 (.mv (.t 48)) 51])))))))
def rs70:List IRes:=[]
set_option maxRecDepth 100000 in
theorem comp70:Comp Try.prog 70 ir70 rs70 49:=⟨⟨_,_,52,Try.func70,rfl,by kernel_rfl,by kernel_rfl,rfl⟩⟩
theorem body70:HasBody Try.prog 70:=hasBody_of (by kernel_rfl)

end Go.Proofs.Ytpcpjmplgladmaa

namespace Go.Proofs.Ytpcpjmplgladmaa
open Go.Pal
def irH12:IC :=
 .seq (.reg 1000 3 [o1 3 (.box 25 (.t 0)) 1000,o1 4 (.box 28 (.t 1)) 1001,o1 6 (.mv (.k (.bool .false))) 1002]) (.seq (.seq (.reg 1003 10 [o1 23 (.load 3 .true (.t 3)) 1003,o1 24 (.load 2 .true (.t 4)) 1004,o1 25 (.call 23 [.t 23, .t 24]) 1005,o1 26 (.un .not (.t 25)) 1006,o1 27 (.mv (.t 26)) 1007, .mk (.some 28) (.faddr 1 (.t 3)) (.some (27, .false)) 1008 .none .false [] .false, .mk (.some 29) (.load 1
 .false (.t 28)) (.some (27, .false)) 1009 .none .false [] .false, .mk (.some 30) (.len (.t 29)) (.some (27, .false)) 1010 .none .false [] .false, .mk (.some 31) (.bin .eql (.t 30)
 (.k (.int .i64 0))) (.some (27, .false)) 1011 .none .false [] .false,o1 32 (.pick (.t 27) (.k (.bool .true)) (.t 31)) 1012]) (.cond (.t 32)
 (.seq (.reg 1013 2 [o1 33 (.call 14 []) 1013,o1 6 (.mv (.t 33)) 1014]) .ret) .skip)) (.seq (.reg 1015
 7 [o1 34 (.mv (.t 2)) 1015,o1 35 (.conv .i64 (.t 34)) 1016,o1 36 (.faddr 1 (.t 3)) 1017,o1 37 (.load 1 .false (.t 36)) 1018,o1 38 (.len (.t 37)) 1019,o1 39 (.bin .rem (.t 35) (.t 38)) 1020,o1 7 (.mv (.t 39)) 1021]) (.seq (.draw 1022 10 [4,3] [] [o3 41 (.load 3 .true (.t 3)) 1022,o3 42 (.call 16 [.t 41]) 1023,o3 43 (.load 2 .true (.t 4)) 1024, .mk (.some 44) (.call 17 [.t 43]) .none 1025 (.some [1023]) .false [] .false, .mk (.some 45) (.call 36 [.t 42, .t 44]) .none 1026 (.some [1025,
 1023]) .false [] .false, .mk (.some 40) (.mv (.t 45)) .none 1027 (.some [1023,1025,1026]) .true [] .false, .mk (.some 46) (.ext (.t 40) 0) .none 1028 (.some [1026,1025,1023])
 .true [] .false, .mk (.some 47) (.ext (.t 40) 1) .none 1029 (.some [1026,1025,1023]) .true [] .false, .mk (.some 8) (.mv (.t 46)) .none 1030 (.some [1023,1025,1026]) .true []
 .false, .mk (.some 9) (.mv (.t 47)) .none 1031 (.some [1023,1025,1026]) .true [] .false]) (.seq (.draw 1032 10 [4,3] [] [o3 49 (.load 3 .true (.t 3)) 1032,o3 50 (.call 16 [.t 49]) 1033,o3 51 (.load 2 .true (.t 4)) 1034, .mk
 (.some 52) (.call 17 [.t 51]) .none 1035 (.some [1033]) .false [] .false, .mk (.some 53) (.call 37 [.t 50, .t 52]) .none 1036 (.some [1035,1033]) .false [] .false, .mk (.some 48)
 (.mv (.t 53)) .none 1037 (.some [1033,1035,1036]) .true [] .false, .mk (.some 54) (.ext (.t 48) 0) .none 1038 (.some [1036,1035,1033]) .true [] .false, .mk (.some 55) (.ext
 (.t 48) 1) .none 1039 (.some [1036,1035,1033]) .true [] .false, .mk (.some 10) (.mv (.t 54)) .none 1040 (.some [1033,1035,1036]) .true [] .false, .mk (.some 11) (.mv (.t 55))
 .none 1041 (.some [1033,1035,1036]) .true [] .false]) (.seq (.draw 1042 10 [4,3] [] [o3 57 (.load 3 .true (.t 3)) 1042,o3 58 (.call 16 [.t 57]) 1043,o3 59 (.load 2 .true (.t 4)) 1044, .mk (.some 60) (.call 17 [.t 59]) .none 1045
 (.some [1043]) .false [] .false, .mk (.some 61) (.call 21 [.t 58, .t 60]) .none 1046 (.some [1045,1043]) .false [] .false, .mk (.some 56) (.mv (.t 61)) .none 1047 (.some [1043,
 1045,1046]) .true [] .false, .mk (.some 62) (.ext (.t 56) 0) .none 1048 (.some [1046,1045,1043]) .true [] .false, .mk (.some 63) (.ext (.t 56) 1) .none 1049 (.some [1046,1045,
 1043]) .true [] .false, .mk (.some 12) (.mv (.t 62)) .none 1050 (.some [1043,1045,1046]) .true [] .false, .mk (.some 13) (.mv (.t 63)) .none 1051 (.some [1043,1045,1046])
 .true [] .false]) (.seq (.draw 1052 10 [4,3] [] [o3 65 (.load 3 .true (.t 3)) 1052,o3 66 (.call 16 [.t 65]) 1053,o3 67 (.load 2 .true (.t 4)) 1054, .mk (.some 68) (.call 17 [.t 67]) .none 1055 (.some [1053]) .false [] .false, .mk
 (.some 69) (.call 28 [.t 66, .t 68]) .none 1056 (.some [1055,1053]) .false [] .false, .mk (.some 64) (.mv (.t 69)) .none 1057 (.some [1053,1055,1056]) .true [] .false, .mk
 (.some 70) (.ext (.t 64) 0) .none 1058 (.some [1056,1055,1053]) .true [] .false, .mk (.some 71) (.ext (.t 64) 1) .none 1059 (.some [1056,1055,1053]) .true [] .false, .mk
 (.some 14) (.mv (.t 70)) .none 1060 (.some [1053,1055,1056]) .true [] .false, .mk (.some 15) (.mv (.t 71)) .none 1061 (.some [1053,1055,1056]) .true [] .false]) (.seq (.reg
 1062 4 [o1 72 (.load 3 .true (.t 3)) 1062,o1 73 (.call 16 [.t 72]) 1063,o1 16 (.alloc 38 [.slice .none 0 0, .slice .none 0 0, .int .i64 0]) 1064,o2 (.store 3 (.t 16) (.t 73)) 1065]) (.seq (.draw 1066 12
 [16] [] [o3 74 (.faddr 1 (.t 16)) 1066,o3 75 (.load 1 .false (.t 74)) 1067,o3 76 (.mv (.t 7)) 1068,o3 77 (.slc 4 (.t 75) .none (.some (.t 76)) .none) 1069,o3 78 (.faddr 1 (.t 16)) 1070,o3 79 (.load 1 .false (.t 78)) 1071,o3 80 (.mv (.t 7)) 1072,o3 81 (.bin .add (.t 80) (.k (.int .i64 1))) 1073,o3 82 (.slc 4 (.t 79) (.some (.t 81)) .none .none) 1074, .mk (.some 83) (.apph 65 4 32 (.t 77) (.t 82)) .none 1075 (.some [0]) .true [] .true,o3 84 (.faddr 1 (.t 16)) 1076,o4 (.store 1 (.t 84) (.t 83)) 1077]) (.seq (.draw 1078 9 [16,4] [] [o3 86 (.load 3 .true (.t 16)) 1078,o3 87 (.load 2 .true (.t 4)) 1079,o3 88 (.call 17 [.t 87]) 1080, .mk (.some
 89) (.call 21 [.t 86, .t 88]) .none 1081 (.some [1080]) .false [] .false, .mk (.some 85) (.mv (.t 89)) .none 1082 (.some [1080,1081]) .true [] .false, .mk (.some 90) (.ext (.t
 85) 0) .none 1083 (.some [1081,1080]) .true [] .false, .mk (.some 91) (.ext (.t 85) 1) .none 1084 (.some [1081,1080]) .true [] .false, .mk (.some 17) (.mv (.t 90)) .none 1085
 (.some [1080,1081]) .true [] .false, .mk (.some 18) (.mv (.t 91)) .none 1086 (.some [1080,1081]) .true [] .false]) (.seq (.draw 1087 9 [16,4] [] [o3 93 (.load 3 .true (.t 16)) 1087,o3 94 (.load 2 .true (.t 4)) 1088,o3 95 (.call 17 [.t 94]) 1089, .mk (.some 96) (.call 28 [.t 93, .t 95]) .none 1090 (.some [1089]) .false [] .false, .mk (.some 92) (.mv (.t 96)) .none 1091 (.some [1089,1090]) .true []
 .false, .mk (.some 97) (.ext (.t 92) 0) .none 1092 (.some [1090,1089]) .true [] .false, .mk (.some 98) (.ext (.t 92) 1) .none 1093 (.some [1090,1089]) .true [] .false, .mk
 (.some 19) (.mv (.t 97)) .none 1094 (.some [1089,1090]) .true [] .false, .mk (.some 20) (.mv (.t 98)) .none 1095 (.some [1089,1090]) .true [] .false]) (.seq (.seq (.reg 1096 22
 [o1 99 (.mv (.t 9)) 1096,o1 100 (.bin .neq (.t 99) (.k (.int .i64 0))) 1097,o1 101 (.mv (.t 100)) 1098, .mk (.some 102) (.mv (.t 11)) (.some (101, .false)) 1099 .none .false [] .false, .mk (.some 103) (.bin .neq (.t 102) (.k (.int .i64 0)))
 (.some (101, .false)) 1100 .none .false [] .false,o1 104 (.pick (.t 101) (.k (.bool .true)) (.t 103)) 1101,o1 105 (.mv (.t 104)) 1102, .mk (.some 106) (.mv (.t 13)) (.some (105, .false)) 1103 .none .false [] .false, .mk (.some 107) (.bin .neq (.t 106) (.k (.int .i64 0))) (.some
 (105, .false)) 1104 .none .false [] .false,o1 108 (.pick (.t 105) (.k (.bool .true)) (.t 107)) 1105,o1 109 (.mv (.t 108)) 1106, .mk (.some 110) (.mv (.t 15)) (.some (109, .false)) 1107 .none .false [] .false, .mk (.some 111) (.bin .neq (.t 110) (.k (.int .i64 0))) (.some (109,
 .false)) 1108 .none .false [] .false,o1 112 (.pick (.t 109) (.k (.bool .true)) (.t 111)) 1109,o1 113 (.mv (.t 112)) 1110, .mk (.some 114) (.mv (.t 18)) (.some (113, .false)) 1111 .none .false [] .false, .mk (.some 115) (.bin .neq (.t 114) (.k (.int .i64 0))) (.some (113,
 .false)) 1112 .none .false [] .false,o1 116 (.pick (.t 113) (.k (.bool .true)) (.t 115)) 1113,o1 117 (.mv (.t 116)) 1114, .mk (.some 118) (.mv (.t 20)) (.some (117, .false)) 1115 .none .false [] .false, .mk (.some 119) (.bin .neq (.t 118) (.k (.int .i64 0))) (.some (117,
 .false)) 1116 .none .false [] .false,o1 120 (.pick (.t 117) (.k (.bool .true)) (.t 119)) 1117]) (.cond (.t 120) (.seq (.reg 1118 1 [o1 6 (.mv (.k (.bool .false))) 1118]) .ret) .skip)) (.seq (.reg 1119 1 [o1 21 (.mv (.k (.int .i64 0))) 1119]) (.seq (.seq (.reg 1120 1 [o1 22 (.mv (.k (.int .i64 0))) 1120]) (.block 0 (.loop (.seq (.seq (.reg 1121 5 [o1 121 (.mv (.t 22)) 1121,o1 122 (.faddr 1 (.t 3)) 1122,o1 123 (.load 1 .false (.t 122)) 1123,o1 124 (.len (.t 123)) 1124,o1 125 (.bin .lss (.t 121) (.t 124)) 1125]) (.cond (.t 125) .skip
 (.exit 0))) (.seq (.block 1 (.seq (.draw 1126 7 [4] [] [o3 128 (.faddr 1 (.t 3)) 1126,o3 129 (.load 1 .false (.t 128)) 1127,o3 130 (.mv (.t 22)) 1128,o3 131 (.iaddr 4 (.t 129) (.t 130)) 1129,o3 132 (.load 4 .true (.t 131)) 1130,o3 133 (.load 2 .true (.t 4)) 1131,o3 134 (.call 41 [.t 132, .t 133]) 1132]) (.cond (.t 134) (.reg 1133 3 [o1 135 (.mv (.t 21)) 1133,o1 136 (.bin .add (.t 135) (.k (.int .i64 1))) 1134,o1 21 (.mv (.t 136)) 1135]) .skip))) (.reg 1136 3 [o1 126 (.mv (.t 22)) 1136,o1 127 (.bin .add (.t 126) (.k (.int .i64 1))) 1137,o1 22 (.mv (.t 127)) 1138])))))) (.seq (.seq (.reg 1139 15 [o1 137 (.mv (.t 10)) 1139,o1 138 (.bin .lss (.t 137) (.k (.int .i64 0))) 1140,o1 139 (.mv (.t 138)) 1141, .mk (.some 140) (.mv (.t 10)) (.some (139, .false)) 1142 .none
 .false [] .false, .mk (.some 141) (.mv (.t 21)) (.some (139, .false)) 1143 .none .false [] .false, .mk (.some 142) (.bin .gtr (.t 140) (.t 141)) (.some (139, .false)) 1144 .none
 .false [] .false,o1 143 (.pick (.t 139) (.k (.bool .true)) (.t 142)) 1145,o1 144 (.mv (.t 143)) 1146,
 .mk (.some 145) (.mv (.t 10)) (.some (144, .false)) 1147 .none .false [] .false, .mk (.some 146) (.bin .eql (.t 145) (.k (.int .i64 0))) (.some (144, .false)) 1148 .none .false []
 .false, .mk (.some 147) (.mv (.t 12)) (.some (144, .false)) 1149 .none .false [] .false, .mk (.some 148) (.len (.t 147)) (.some (144, .false)) 1150 .none .false [] .false, .mk
 (.some 149) (.bin .eql (.t 148) (.k (.int .i64 0))) (.some (144, .false)) 1151 .none .false [] .false, .mk (.some 150) (.pur (.bin .neq 4) [.t 146, .t 149]) (.some (144, .false))
 1152 .none .false [] .false,o1 151 (.pick (.t 144) (.k (.bool .true)) (.t 150)) 1153]) (.cond (.t 151) (.seq (.reg 1154 1 [o1 6 (.mv (.k (.bool .false))) 1154]) .ret) .skip)) (.seq (.seq (.draw 1155 13 [4,7,8] [] [o3 152 (.mv (.t 8)) 1155,o3 153 (.mv (.t 7)) 1156,o3 154 (.call 24 [.t 152, .t 153]) 1157, .mk (.some 155) (.mv
 (.t 154)) .none 1158 (.some [1157]) .true [] .false, .mk (.some 156) (.faddr 1 (.t 3)) (.some (155, .false)) 1159 (.some [1157]) .true [] .false, .mk (.some 157) (.load 1 .false
 (.t 156)) (.some (155, .false)) 1160 (.some [1157]) .false [] .false, .mk (.some 158) (.mv (.t 7)) (.some (155, .false)) 1161 (.some [1157]) .true [] .false, .mk (.some 159)
 (.iaddr 4 (.t 157) (.t 158)) (.some (155, .false)) 1162 (.some [1157]) .true [] .false, .mk (.some 160) (.load 4 .true (.t 159)) (.some (155, .false)) 1163 (.some [1157]) .false
 [] .false, .mk (.some 161) (.load 2 .true (.t 4)) (.some (155, .false)) 1164 (.some [1157]) .false [] .false, .mk (.some 162) (.call 41 [.t 160, .t 161]) (.some (155, .false))
 1165 (.some [1157]) .false [] .false, .mk (.some 163) (.un .not (.t 162)) (.some (155, .false)) 1166 (.some [1157,1165]) .true [] .false, .mk (.some 164) (.pick (.t 155) (.k
 (.bool .true)) (.t 163)) .none 1167 (.some [1165,1157]) .true [] .false]) (.cond (.t 164) (.seq (.draw 1168 29 [4,7,8,19,14,17,12] [] [o3 165 (.mv (.t 12)) 1168,o3 166 (.call 26 [.t 165]) 1169,o3 167 (.mv (.t 17)) 1170,
 .mk (.some 168) (.call 26 [.t 167]) .none 1171 (.some [1169]) .false [] .false, .mk (.some 169) (.bin .eql (.t 166) (.t 168)) .none 1172 (.some [1171,1169]) .true [] .false, .mk
 (.some 170) (.mv (.t 169)) .none 1173 (.some [1169,1171]) .true [] .false, .mk (.some 171) (.mv (.t 14)) (.some (170, .true)) 1174 (.some [1171,1169]) .true [] .false, .mk
 (.some 172) (.mv (.t 19)) (.some (170, .true)) 1175 (.some [1171,1169]) .true [] .false, .mk (.some 173) (.call 29 [.t 171, .t 172]) (.some (170, .true)) 1176 (.some [1169,
 1171]) .false [] .false, .mk (.some 174) (.pick (.t 170) (.t 173) (.k (.bool .false))) .none 1177 (.some [1176,1171,1169]) .true [] .false, .mk (.some 175) (.mv (.t 174)) .none
 1178 (.some [1169,1171,1176]) .true [] .false, .mk (.some 176) (.mv (.t 8)) (.some (175, .true)) 1179 (.some [1176,1171,1169]) .true [] .false, .mk (.some 177) (.mv (.t 7))
 (.some (175, .true)) 1180 (.some [1176,1171,1169]) .true [] .false, .mk (.some 178) (.call 24 [.t 176, .t 177]) (.some (175, .true)) 1181 (.some [1169,1171,1176]) .false []
 .false, .mk (.some 179) (.un .not (.t 178)) (.some (175, .true)) 1182 (.some [1176,1171,1169,1181]) .true [] .false, .mk (.some 180) (.mv (.t 179)) (.some (175, .true)) 1183
 (.some [1181,1169,1171,1176]) .true [] .false, .mk (.some 181) (.faddr 1 (.t 3)) (.some (180, .false)) 1184 (.some [1176,1171,1169,1181]) .true [] .false, .mk (.some 182)
 (.load 1 .false (.t 181)) (.some (180, .false)) 1185 (.some [1181,1169,1171,1176]) .false [] .false, .mk (.some 183) (.mv (.t 7)) (.some (180, .false)) 1186 (.some [1176,1171,
 1169,1181]) .true [] .false, .mk (.some 184) (.iaddr 4 (.t 182) (.t 183)) (.some (180, .false)) 1187 (.some [1176,1171,1169,1181]) .true [] .false, .mk (.some 185) (.load 4
 .true (.t 184)) (.some (180, .false)) 1188 (.some [1181,1169,1171,1176]) .false [] .false, .mk (.some 186) (.load 2 .true (.t 4)) (.some (180, .false)) 1189 (.some [1176,1171,
 1169,1181]) .false [] .false, .mk (.some 187) (.call 41 [.t 185, .t 186]) (.some (180, .false)) 1190 (.some [1176,1171,1169,1181]) .false [] .false, .mk (.some 188) (.pick (.t
 180) (.k (.bool .true)) (.t 187)) (.some (175, .true)) 1191 (.some [1190,1176,1171,1169,1181]) .true [] .false, .mk (.some 189) (.pick (.t 175) (.t 188) (.k (.bool .false)))
 .none 1192 (.some [1181,1190,1176,1171,1169]) .true [] .false, .mk (.some 190) (.mv (.t 189)) .none 1193 (.some [1169,1171,1176,1190,1181]) .true [] .false, .mk (.some
 191) (.call 14 []) (.some (190, .true)) 1194 (.some [1181,1190,1176,1171,1169]) .false [] .false, .mk (.some 192) (.pick (.t 190) (.t 191) (.k (.bool .false))) .none 1195
 (.some [1194,1181,1190,1176,1171,1169]) .true [] .false, .mk (.some 6) (.mv (.t 192)) .none 1196 (.some [1169,1171,1176,1190,1181,1194]) .true [] .false]) .ret) .skip))
 (.seq (.reg 1197 9 [o1 193 (.mv (.t 17)) 1197,o1 194 (.call 26 [.t 193]) 1198,o1 195 (.mv (.t 12)) 1199,o1 196 (.call 26 [.t 195]) 1200,o1 197 (.bin .lss (.t 194) (.t 196)) 1201,o1 198 (.mv (.t 197)) 1202, .mk (.some 199) (.call 14 []) (.some (198, .true)) 1203 .none .false [] .false,o1 200 (.pick (.t 198) (.t 199) (.k (.bool .false))) 1204,o1 6 (.mv (.t 200)) 1205]) .ret))))))))))))))))
def rsH12:List IRes:=[.tmp 6]
set_option maxRecDepth 100000 in
theorem compH12:CompAt Try.prog 12 1000 irH12 rsH12 201:=⟨⟨_,_,1206,Try.func12,rfl,by kernel_rfl,by kernel_rfl,rfl⟩⟩

def irH16:IC :=
 .seq (.reg 1000 2 [o1 1 (.box 25 (.t 0)) 1000,o1 2 (.alloc 38 [.slice .none 0 0, .slice .none 0 0, .int .i64 0]) 1001]) (.seq (.reg 1002 5 [o1 7 (.faddr 2 (.t 1)) 1002,o1 8 (.load 1 .false (.t 7)) 1003,
 o1 9 (.bld [(0,1),(1,1),(2,1)] [.slice .none 0 0, .slice .none 0 0, .int .i64 0] [(2, .t 8)]) 1004,o1 3 (.alloc 38 [.slice .none 0 0, .slice .none 0 0, .int .i64 0]) 1005,o2 (.store 3 (.t 3) (.t 9)) 1006]) (.seq (.seq (.reg 1007 1 [o1 4 (.mv (.k (.int .i64 0))) 1007]) (.block 0 (.loop (.seq (.seq (.reg 1008 5 [o1 10 (.mv (.t 4)) 1008,
 o1 11 (.faddr 0 (.t 1)) 1009,o1 12 (.load 1 .false (.t 11)) 1010,o1 13 (.len (.t 12)) 1011,o1 14 (.bin .lss (.t 10) (.t 13)) 1012]) (.cond (.t 14) .skip (.exit 0))) (.seq (.block 1 (.draw 1013 20 [] []
 [o3 17 (.faddr 0 (.t 3)) 1013,o3 18 (.load 1 .false (.t 17)) 1014,o3 19 (.faddr 0 (.t 1)) 1015,o3 20 (.load 1 .false (.t 19)) 1016,o3 21 (.mv (.t 4)) 1017,o3 22 (.iaddr 2 (.t 20) (.t 21)) 1018,o3 23 (.faddr 0 (.t 22)) 1019,o3 24 (.load 1 .false (.t 23)) 1020,o3 25 (.faddr 0 (.t 1)) 1021,o3 26 (.load 1 .false (.t 25)) 1022,o3 27 (.mv (.t 4)) 1023,o3 28 (.iaddr 2 (.t 26) (.t 27)) 1024,o3 29 (.faddr 1 (.t 28)) 1025,o3 30 (.load 1 .false (.t 29)) 1026,o3 31 (.call 27 [.t 30]) 1027, .mk (.some 32) (.bld [(0,1),(1,1)] [.string (ByteArray.mk (Array.mk [])), .slice .none 0 0] [(0, .t 24),(1, .t
 31)]) .none 1028 (.some [1027]) .true [] .false, .mk (.some 33) (.bsl 104 2 1 [.string (ByteArray.mk (Array.mk [])), .slice .none 0 0] [(0, .t 32)]) .none 1029 (.some [1027])
 .true [] .false, .mk (.some 34) (.apph 104 2 40 (.t 18) (.t 33)) .none 1030 (.some [0,1027,1029]) .false [] .true, .mk (.some 35) (.faddr 0 (.t 3)) .none 1031 (.some [1029,
 1027]) .true [] .false, .mk .none (.store 1 (.t 35) (.t 34)) .none 1032 (.some [1027,1029]) .true [] .false])) (.reg 1033 3 [o1 15 (.mv (.t 4)) 1033,o1 16 (.bin .add (.t 15) (.k (.int .i64 1))) 1034,o1 4 (.mv (.t 16)) 1035])))))) (.seq
 (.seq (.reg 1036 1 [o1 5 (.mv (.k (.int .i64 0))) 1036]) (.block 2 (.loop (.seq (.seq (.reg 1037 5 [o1 36 (.mv (.t 5)) 1037,o1 37 (.faddr 1 (.t 1)) 1038,o1 38 (.load 1 .false (.t 37)) 1039,o1 39 (.len (.t 38)) 1040,o1 40 (.bin .lss (.t 36) (.t 39)) 1041]) (.cond (.t 40) .skip (.exit 2))) (.seq (.block
 3 (.seq (.reg 1042 7 [o1 43 (.faddr 1 (.t 1)) 1042,o1 44 (.load 1 .false (.t 43)) 1043,o1 45 (.mv (.t 5)) 1044,o1 46 (.iaddr 4 (.t 44) (.t 45)) 1045,o1 47 (.load 4 .true (.t 46)) 1046,o1 6 (.alloc 90 [.int .i64 0, .int .i64 0, .int .i64 0, .int .i64 0]) 1047,o2 (.store 4 (.t 6) (.t 47)) 1048]) (.reg 1049 15 [o1 48 (.faddr 1 (.t 3)) 1049,o1 49 (.load 1 .false (.t 48)) 1050,o1 50 (.faddr 0 (.t 6)) 1051,o1 51 (.load 1 .false (.t 50)) 1052,o1 52 (.faddr 1 (.t 6)) 1053,o1 53 (.load 1 .false (.t 52)) 1054,o1 54 (.faddr 2 (.t 6)) 1055,o1 55 (.load 1 .false (.t 54)) 1056,o1 56 (.faddr 3 (.t 6)) 1057,o1 57 (.load 1 .false (.t 56)) 1058,o1 58 (.bld [(0,1),(1,1),(2,1),(3,1)] [.int .i64 0, .int .i64 0, .int .i64 0, .int .i64 0] [(0, .t 51),(1, .t 53),(2, .t 55),(3, .t 57)]) 1059,o1 59 (.bsl 65 4 1 [.int .i64 0, .int .i64 0, .int .i64 0, .int .i64 0] [(0, .t 58)]) 1060,o1 60 (.apph 65 4 32 (.t 49) (.t 59)) 1061,o1 61 (.faddr 1 (.t 3)) 1062,o2 (.store 1 (.t 61) (.t 60)) 1063]))) (.reg 1064 3 [o1 41 (.mv (.t 5)) 1064,o1 42 (.bin .add (.t 41) (.k (.int .i64 1))) 1065,o1 5 (.mv (.t 42)) 1066])))))) (.seq (.reg 1067 2 [o1 62 (.load 3 .true (.t 3)) 1067,o2 (.store 3 (.t 2) (.t 62)) 1068]) .ret))))
def rsH16:List IRes:=[.cell 2 3 .true]
set_option maxRecDepth 100000 in
theorem compH16:CompAt Try.prog 16 1000 irH16 rsH16 63:=⟨⟨_,_,1069,Try.func16,rfl,by kernel_rfl,by kernel_rfl,rfl⟩⟩

end Go.Proofs.Ytpcpjmplgladmaa

namespace Go.Pal
open Go.RowKit

abbrev GRel (α:Type):=List Value→Hp→α→Prop

structure GOk {α:Type} (R:GRel α):Prop where
 uniq:∀ args G x y,R args G x→R args G y→x = y
 grow:∀ args G G' x,Grow G G'→R args G x→R args G' x
def gsca {α:Type} (R:GRel α) (q:α→Value→Prop):PSpec:=.sca (fun args G=>∃ x,R args G x) (fun args G v=>∃ x,R args G x∧q x v)
def grel {α:Type} (R:GRel α) (q:α→Value→Hp→Prop):PSpec:=.rel (fun args G=>∃ x,R args G x) (fun args v G'=>∃ x,R args G' x∧q x v G')
def gown {α:Type} (t:TypeId) (k:Nat) (R:GRel α) (q:α→Nat→List Value→Prop):PSpec:=.own t k (fun args G=>∃ x,R args G x) (fun args n vs G'=>∃ x,R args G' x∧q x n vs)

section
variable {P:Program} {f:FuncId} {ic:IC} {rs:List IRes} {nt:Nat} {α:Type} {R:GRel α}

theorem Comp.gsca (C:Comp P f ic rs nt) (T:Tab P) {q:α→Value→Prop} (hn:∀ args G x,R args G x→args.length≤nt) (h:∀ args G x,R args G x→funVC P T.get ic rs args G fun v _=>q x v):Sound P f id (gsca R q) :=
 fun args G W hs ⟨x,hx⟩=>(C.calls T (hn args G x hx) hs (h args G x hx)).mono fun e W' ⟨v,_,h1,h2,_,_,_,h3⟩=>⟨v,h1,⟨x,hx,h2⟩,h3⟩
theorem Comp.grel (C:Comp P f ic rs nt) (T:Tab P) (ok:GOk R) {q:α→Value→Hp→Prop} (hn:∀ args G x,R args G x→args.length≤nt) (hm:∀ x v G G',Grow G G'→q x v G→q x v G') (h:∀ args G x,R args G x→funVC P T.get ic rs args G fun v G'=>q x v G'):Sound P f id (grel R q) :=
 ⟨fun args v G G' hg ⟨x,h1,h2⟩=>⟨x,ok.grow _ _ _ _ hg h1,hm _ _ _ _ hg h2⟩,fun args G W hs ⟨x,hx⟩=>(C.calls T (hn args G x hx) hs (h args G x hx)).mono fun e W' ⟨v,G',h1,h2,h3,h4,h5,h6⟩=>⟨v,G',h1,⟨x,ok.grow _ _ _ _ h3 hx,h2⟩,h3,h4,h5,h6⟩⟩

theorem Comp.gown (C:Comp P f ic rs nt) (T:Tab P) (ok:GOk R) {t:TypeId} {k:Nat} {q:α→Nat→List Value→Prop} (hn:∀ args G x,R args G x→args.length≤nt) (h:∀ args G x,R args G x→ownVC P T.get t k ic rs args G fun n vs _=>q x n vs):Sound P f id (gown t k R q) :=
 ⟨fun args n vs G G' hg ⟨x,h1,h2⟩=>⟨x,ok.grow _ _ _ _ hg h1,h2⟩,fun args G W hs ⟨x,hx⟩=>(C.owns T (hn args G x hx) hs (h args G x hx)).mono fun e W' ⟨v,n,vs,G',h1,h2,h3,h4,h5,h6,h7,h8⟩=>⟨v,n,vs,G',h1,⟨x,ok.grow _ _ _ _ h7 hx,h2⟩,h3,h4,h5,h6,h7,h8⟩⟩
theorem ScaP.g (ok:GOk R) {q:α→Value→Prop} {args:List Value} {G:Hp} {A:Value→Prop} {x:α} (hx:R args G x) (h:∀ v,q x v→W (A v)):ScaP (∃ x,R args G x) (fun v=>∃ x,R args G x∧q x v) A :=
 ⟨⟨x,hx⟩,fun v ⟨y,hy,hq⟩=>h v ((ok.uniq _ _ _ _ hy hx) ▸ hq)⟩
theorem RelP.g (ok:GOk R) {q:α→Value→Hp→Prop} {args:List Value} {Gr G:Hp} {A:Value→Hp→Prop} {x:α} (hx:R args Gr x) (hg:Grow Gr G) (h:∀ v G',Grow G G'→q x v G'→W (A v G')):RelP (∃ x,R args Gr x) G (fun v G'=>∃ x,R args G' x∧q x v G') A :=
 ⟨⟨x,hx⟩,fun v G' hg' ⟨y,hy,hq⟩=>h v G' hg' ((ok.uniq _ _ _ _ hy (ok.grow _ _ _ _ (hg.trans hg') hx)) ▸ hq)⟩
theorem OwnP.g (ok:GOk R) {q:α→Nat→List Value→Prop} {args:List Value} {Gr G:Hp} {A:Nat→List Value→Hp→Prop} {x:α} (hx:R args Gr x) (hg:Grow Gr G) (h:∀ n vs G',Grow G G'→q x n vs→W (A n vs G')):OwnP (∃ x,R args Gr x) G (fun n vs G'=>∃ x,R args G' x∧q x n vs) A :=
 ⟨⟨x,hx⟩,fun n vs G' hg' ⟨y,hy,hq⟩=>h n vs G' hg' ((ok.uniq _ _ _ _ hy (ok.grow _ _ _ _ (hg.trans hg') hx)) ▸ hq)⟩
end

theorem HeadP.of {pb:List Nat} {fr:Nat→SV} {H:Nat→Option OB} {G:Hp} {fl:List (Nat × SV)} {hl:List (Nat × OB)} (π:List (Nat × Option Nat)) (h1:frV π ⟨fr,H,G⟩ fl) (h2:HV π ⟨fr,H,G⟩ hl) (h3:injB π hl = true:=by rfl) (h4:avoid π pb = true:=by rfl) (h5:fr POS = frOf fl POS:=by rfl):HeadP pb ⟨fr,H,G⟩ fl hl:=⟨⟨π,h1,h2,h3,h4⟩,h5⟩
theorem LoopP.of {pb:List Nat} {fr:Nat→SV} {H:Nat→Option OB} {G:Hp} {bd:Nat} {A:(I:Inv)→I.α→Hp→Prop} (I:Inv) (x0:I.α) (h1:HeadP pb ⟨fr,H,G⟩ (I.fr x0) (I.H x0)) (h3:I.ok x0 G)
  (hb:∀ x,frBd bd (I.fr x) = true∧HBd bd (I.H x) = true) (hr:∀ x G',Grow G G'→I.ok x G'→W (A I x G')):LoopP pb ⟨fr,H,G⟩ bd A:=⟨I,⟨x0,h1,h3⟩,hb,hr⟩
theorem RoundP.of {pb:List Nat} {I:Inv} {x:I.α} {fr:Nat→SV} {H:Nat→Option OB} {G:Hp} (x':I.α) (h1:HeadP pb ⟨fr,H,G⟩ (I.fr x') (I.H x')) (h3:I.ok x' G) (h4:I.m x' < I.m x):RoundP pb I x ⟨fr,H,G⟩:=⟨x',h1,h3,h4⟩
theorem RoundR.of {pb:List Nat} {I:RInv} {x:I.α} {fr:Nat→SV} {H:Nat→Option OB} {G:Hp} (x':I.α) (π:List (Nat × Option Nat)) (h2:HV π ⟨fr,H,G⟩ (I.H x')) (h3:I.ok x' G) (h4:I.k x' = I.k x + 1) (h5:injB π (I.H x') = true:=by rfl) (h6:avoid π pb = true:=by rfl):RoundR pb I x ⟨fr,H,G⟩:=⟨x',⟨π,h2,h5,h6⟩,h3,h4⟩
theorem RangeP.of {P:Program} {pb:List Nat} {fr:Nat→SV} {H:Nat→Option OB} {G:Hp} {bd np:Nat} {v:Value} {A:(I:RInv)→I.α→List Value→Hp→Prop} {B:(I:RInv)→I.α→Hp→Prop} {pre:Nat→List Value→Hp→List (List Value)→Prop} {post:Bool→Value→Prop} (Ys:List (List Value)) (I:RInv) (x0:I.α) (hs:SoundFn P v (.seq pre post))
  (hpre:∀ l,pre l [.func (.yield l) #[] #[]] G Ys) (hlen:∀ y∈Ys,y.length = np) (h0:I.k x0 = 0) (h1:HeadP pb ⟨fr,H,G⟩ I.fr (I.H x0)) (h2:I.ok x0 G) (hb:frBd bd I.fr = true∧∀ x,HBd bd (I.H x) = true) (hm:∀ x G G',Grow G G'→I.ok x G→I.ok x G')
  (hr:∀ x y G',Grow G G'→I.ok x G'→Ys[I.k x]? = some y→W (A I x y G')) (hd:∀ x G',Grow G G'→I.ok x G'→I.k x = Ys.length→W (B I x G')):RangeP P pb ⟨fr,H,G⟩ bd np v A B :=
 ⟨pre,post,Ys,I,hs,hpre,hlen,⟨x0,h0,h1,h2⟩,hb,hm,hr,hd⟩
theorem SoundFn.of {P:Program} {g:FuncId} {first cap:Array Value} {s:PSpec} (hb:HasBody P g) (hs:Sound P g (fun args=>first.toList++args++cap.toList) s):SoundFn P (.func (.func g) first cap) s:=⟨g,first,cap,rfl,hb,hs⟩

/-! ### Published slices -/

section
variable {α:Type} {k:Nat} {R:Hp→List Value→α→Prop} {G:Hp} {a:Option Addr} {n c:Nat} {l:List α}

theorem SlR.uniq {l':List α} (hR:∀ cs x y,R G cs x→R G cs y→x = y) (h:SlR k R G a n c l) (h':SlR k R G a n c l'):l = l':=by
 apply List.ext_getElem (by rw [h.len,h'.len])
 intro i h1 h2
 obtain ⟨cs,a1,a2,a3⟩:=h.at_ i h1
 obtain ⟨cs',b1,b2,b3⟩:=h'.at_ i h2
 have:=a2.eq b2 (by omega)
 subst this
 exact hR _ _ _ a3 b3
theorem SlR.cells (h:SlR k R G a n c l) {j:Nat} (hj:j < l.length):∃ cs,cs.length = k∧CellsAt G (ab a) (ao a + j * k) cs∧R G cs l[j]:=h.at_ j hj
end

theorem CellsAt.drop {G:Hp} {b off d n:Nat} {cs:List Value} (h:CellsAt G b off cs):CellsAt G b (off + d) ((cs.drop d).take n):=by
 intro j v hj
 rw [List.getElem?_take] at hj
 split at hj
 ·rw [List.getElem?_drop] at hj
  have:=h _ _ hj
  rwa [← Nat.add_assoc] at this
 ·cases hj
theorem RdP.of {G:Hp} {b off n:Nat} {A:List Value→Prop} (cs:List Value) (h1:cs.length = n) (h2:CellsAt G b off cs) (h3:W (A cs)):RdP G b off n A:=⟨cs,h1,h2,h3⟩
end Go.Pal

namespace Go.Pal
open Go.RowKit

abbrev I (n:Int):Value:=.int .i64 n
structure Rd (α:Type) where
 R:Hp→Value→α→Prop
 uniq:∀ {G v x y},R G v x→R G v y→x = y
 grow:∀ {G G' v x},Grow G G'→R G v x→R G' v x
structure El (α:Type) where
 k:Nat
 f:α→List Value
 inj:∀ {x y},f x = f y→x = y
 len:∀ x,(f x).length = k
 one:∀ x, ∀ v∈f x,v.oneCell' = true
def El.R {α:Type} (e:El α) (_:Hp) (cs:List Value) (x:α):Prop:=cs = e.f x
def SlV {α:Type} (e:El α) (G:Hp) (v:Value) (l:List α):Prop:=∃ a n c,v = .slice a n c∧SlR e.k e.R G a n c l∧n≤140737488355328
theorem SlV.uniq {α:Type} {e:El α} {G:Hp} {v:Value} {x y:List α} (h:SlV e G v x) (h':SlV e G v y):x = y:=by
 obtain ⟨a,n,c,rfl,h,_⟩:=h
 obtain ⟨a',n',c',e',h',_⟩:=h'
 cases e'
 exact h.uniq (fun cs x y h1 h2=>e.inj (h1.symm.trans h2)) h'
theorem SlV.grow {α:Type} {e:El α} {G G':Hp} {v:Value} {x:List α} (hg:Grow G G') (h:SlV e G v x):SlV e G' v x:=by
 obtain ⟨a,n,c,rfl,h,hn⟩:=h
 exact ⟨a,n,c,rfl,SlR.grow (G:=G) (G':=G') (fun _ _ h=>h) h hg,hn⟩
def slRd {α:Type} (e:El α):Rd (List α):=⟨SlV e,fun h h'=>h.uniq h',fun hg h=>h.grow hg⟩
def intRd:Rd Int:=⟨fun _ v x=>v = I x,fun {_ _ _ _} h h'=>by rw [h] at h';cases h';rfl,fun {_ _ _ _} _ h=>h⟩

def args1 {α:Type} (A:Rd α) (q:α→Prop):GRel α:=fun args G x=>∃ v,args = [v]∧A.R G v x∧q x
def args2 {α β:Type} (A:Rd α) (B:Rd β) (q:α→β→Prop):GRel (α × β):=fun args G x=>∃ v w,args = [v,w]∧A.R G v x.1∧B.R G w x.2∧q x.1 x.2
def args3 {α β γ:Type} (A:Rd α) (B:Rd β) (C:Rd γ) (q:α→β→γ→Prop):GRel (α × β × γ):=fun args G x=>∃ u v w,args = [u,v,w]∧A.R G u x.1∧B.R G v x.2.1∧C.R G w x.2.2∧q x.1 x.2.1 x.2.2
theorem ok1 {α:Type} (A:Rd α) (q:α→Prop):GOk (args1 A q) :=
 ⟨fun _ _ _ _ ⟨v,h,h1,_⟩ ⟨v',h',h1',_⟩=>by rw [h] at h';cases h';exact A.uniq h1 h1',fun _ _ _ _ hg ⟨v,h,h1,h2⟩=>⟨v,h,A.grow hg h1,h2⟩⟩
theorem ok2 {α β:Type} (A:Rd α) (B:Rd β) (q:α→β→Prop):GOk (args2 A B q) :=
 ⟨fun _ _ x y ⟨v,w,h,h1,h2,_⟩ ⟨v',w',h',h1',h2',_⟩=>by rw [h] at h';cases h';exact Prod.ext (A.uniq h1 h1') (B.uniq h2 h2'),fun _ _ _ _ hg ⟨v,w,h,h1,h2,h3⟩=>⟨v,w,h,A.grow hg h1,B.grow hg h2,h3⟩⟩
theorem ok3 {α β γ:Type} (A:Rd α) (B:Rd β) (C:Rd γ) (q:α→β→γ→Prop):GOk (args3 A B C q) :=
 ⟨fun _ _ x y ⟨u,v,w,h,h1,h2,h3,_⟩ ⟨u',v',w',h',h1',h2',h3',_⟩=>by rw [h] at h';cases h';exact Prod.ext (A.uniq h1 h1') (Prod.ext (B.uniq h2 h2') (C.uniq h3 h3')),fun _ _ _ _ hg ⟨u,v,w,h,h1,h2,h3,h4⟩=>⟨u,v,w,h,A.grow hg h1,B.grow hg h2,C.grow hg h3,h4⟩⟩

theorem SlR.el {α:Type} {e:El α} {G:Hp} {a:Option Addr} {n c:Nat} {l:List α} (h:SlR e.k e.R G a n c l) {i:Nat} (hi:i < l.length):CellsAt G (ab a) (ao a + i * e.k) (e.f l[i]):=by
 obtain ⟨cs,_,h2,h3⟩:=h.at_ i hi
 have h3:cs = e.f l[i]:=h3
 subst h3;exact h2
theorem RdP.at {G:Hp} {b off n:Nat} {A:List Value→Prop} {cs:List Value} (h2:CellsAt G b off cs) (h1:cs.length = n) (h3:W (A cs)):RdP G b off n A:=⟨cs,h1,h2,h3⟩
theorem RdP.sub {G:Hp} {b off d n:Nat} {A:List Value→Prop} {cs:List Value} (h2:CellsAt G b off cs) (h1:((cs.drop d).take n).length = n) (h3:W (A ((cs.drop d).take n))):RdP G b (off + d) n A:=⟨_,h1,h2.drop,h3⟩
theorem RdP.sub2 {G:Hp} {b off d e n:Nat} {A:List Value→Prop} {cs:List Value} (h2:CellsAt G b off cs) (h1:((cs.drop (d + e)).take n).length = n) (h3:W (A ((cs.drop (d + e)).take n))):RdP G b (off + d + e) n A:=⟨_,h1,by rw [Nat.add_assoc];exact h2.drop,h3⟩
theorem RdP.sub3 {G:Hp} {b off d e f n:Nat} {A:List Value→Prop} {cs:List Value} (h2:CellsAt G b off cs) (h1:((cs.drop (d + e + f)).take n).length = n) (h3:W (A ((cs.drop (d + e + f)).take n))):RdP G b (off + d + e + f) n A:=⟨_,h1,by rw [Nat.add_assoc,Nat.add_assoc, ← Nat.add_assoc d];exact h2.drop,h3⟩
theorem EqP.at {l:List Value} {n:Nat} {A:List Value→Prop} (h1:l.length = n) (h3:W (A l)):EqP l n A:=⟨l,rfl,h1,h3⟩

theorem SlR.all {α:Type} {e:El α} {G:Hp} {a:Option Addr} {n c:Nat} {l:List α} (h:SlR e.k e.R G a n c l):CellsAt G (ab a) (ao a) (l.map e.f).flatten∧(l.map e.f).flatten.length = n * e.k∧∀ v∈(l.map e.f).flatten,v.oneCell' = true:=by
 have hl:∀ l:List α,(l.map e.f).flatten.length = l.length * e.k:=by
  intro l
  induction l with
  | nil=>simp
  | cons x r ih=>simp only [List.map_cons,List.flatten_cons,List.length_append,ih,e.len,List.length_cons,Nat.add_mul,Nat.one_mul];omega
 have hat:∀ (l:List α) (j:Nat) (v:Value),(l.map e.f).flatten[j]? = Option.some v→∃ i, ∃ h:i < l.length, ∃ d,j = i * e.k + d∧(e.f l[i])[d]? = Option.some v:=by
  intro l
  induction l with
  | nil=>intro j v hj;simp at hj
  | cons x r ih =>
   intro j v hj
   simp only [List.map_cons,List.flatten_cons] at hj
   by_cases hlt:j < (e.f x).length
   ·rw [List.getElem?_append_left hlt] at hj
    exact ⟨0,by simp,j,by simp,hj⟩
   ·rw [List.getElem?_append_right (by omega)] at hj
    obtain ⟨i,h,d,h1,h2⟩:=ih _ _ hj
    rw [e.len] at h1 hlt
    exact ⟨i + 1,by simpa using h,d,by rw [Nat.add_mul];omega,by simpa using h2⟩
 refine ⟨fun j v hj=>?_,by rw [hl,h.len],fun v hv=>?_⟩
 ·obtain ⟨i,hi,d,rfl,h2⟩:=hat l j v hj
  have:=h.el hi d v h2
  rwa [Nat.add_assoc] at this
 ·obtain ⟨x,hx,hv⟩:=List.mem_flatten.1 hv
  obtain ⟨y,_,rfl⟩:=List.mem_map.1 hx
  exact e.one y v hv
theorem PubRow.sl {α:Type} {e:El α} {G:Hp} {a:Option Addr} {n c:Nat} {l:List α} {vs:List Value} (h:PubRow G a n c vs) (hv:vs = (l.map e.f).flatten) (hn:l.length = n):SlR e.k e.R G a n c l:=by
 refine ⟨hn,h.cap,h.some,fun i hi=>⟨e.f l[i],e.len _, ?_,rfl⟩⟩
 intro j v hj
 have hlt:j < e.k:=by
  have:=(List.getElem?_eq_some_iff.1 hj).1
  rwa [e.len] at this
 have key:∀ (l:List α) (i:Nat) (hi:i < l.length),(l.map e.f).flatten[i * e.k + j]? = (e.f l[i])[j]?:=by
  intro l
  induction l with
  | nil=>intro i hi;simp at hi
  | cons x r ih =>
   intro i hi
   cases i with
   | zero=>simp only [List.map_cons,List.flatten_cons,Nat.zero_mul,Nat.zero_add,List.getElem_cons_zero];rw [List.getElem?_append_left (by rw [e.len];exact hlt)]
   | succ i =>
    simp only [List.map_cons,List.flatten_cons,List.getElem_cons_succ]
    rw [List.getElem?_append_right (by rw [e.len,Nat.add_mul];omega),e.len,show (i + 1) * e.k + j - e.k = i * e.k + j by rw [Nat.add_mul];omega]
    exact ih i (by simpa using hi)
 have:=h.cells (i * e.k + j) v (by rw [hv,key l i hi];exact hj)
 rwa [← Nat.add_assoc] at this
theorem PubRow.slV {α:Type} {e:El α} {G:Hp} {a:Option Addr} {n c:Nat} {l:List α} {vs:List Value} (h:PubRow G a n c vs) (hv:vs = (l.map e.f).flatten) (hn:l.length = n) (hb:n≤140737488355328):SlV e G (.slice a n c) l:=⟨a,n,c,rfl,h.sl hv hn,hb⟩
structure Row {α:Type} (e:El α) (l:List α) (n:Nat) (vs:List Value):Prop where
 n:n = l.length
 vs:vs = (l.map e.f).flatten
theorem Row.nil {α:Type} {e:El α}:Row e [] 0 []:=⟨rfl,rfl⟩
theorem Row.snoc {α:Type} {e:El α} {l:List α} {n:Nat} {vs us:List Value} (h:Row e l n vs) (x:α) (hu:us = e.f x:=by rfl):Row e (l++[x]) (n + 1) (vs++us):=by
 subst hu;obtain ⟨rfl,rfl⟩:=h;exact ⟨by simp,by simp⟩
theorem Row.len {α:Type} {e:El α} {l:List α} {n:Nat} {vs:List Value} (h:Row e l n vs):vs.length = n * e.k:=by
 obtain ⟨rfl,rfl⟩:=h
 induction l with
 | nil=>simp
 | cons x r ih=>simp only [List.map_cons,List.flatten_cons,List.length_append,ih,e.len,List.length_cons,Nat.add_mul,Nat.one_mul];omega
theorem Row.at {α:Type} {e:El α} {l:List α} {n:Nat} {vs:List Value} (h:Row e l n vs) {i:Nat} (hi:i < l.length):(vs.drop (i * e.k)).take e.k = e.f l[i]:=by
 obtain ⟨rfl,rfl⟩:=h
 induction l generalizing i with
 | nil=>simp at hi
 | cons x r ih =>
  cases i with
  | zero=>simp only [List.map_cons,List.flatten_cons,Nat.zero_mul,List.drop_zero,List.getElem_cons_zero];rw [List.take_append_of_le_length (by rw [e.len];exact Nat.le_refl _),List.take_of_length_le (by rw [e.len];exact Nat.le_refl _)]
  | succ i =>
   simp only [List.map_cons,List.flatten_cons,List.getElem_cons_succ]
   rw [List.drop_append,List.drop_of_length_le (by rw [e.len,Nat.add_mul];omega),List.nil_append,e.len,show (i + 1) * e.k - e.k = i * e.k by rw [Nat.add_mul];omega]
   exact ih (by simpa using hi)
theorem EqP.row {α:Type} {e:El α} {l:List α} {n:Nat} {vs:List Value} (h:Row e l n vs) {i:Nat} (hi:i < l.length) {A:List Value→Prop} (k:W (A (e.f l[i]))):EqP ((vs.drop (i * e.k)).take e.k) e.k A:=⟨_,h.at hi,e.len _,k⟩
theorem seg_get {α:Type} {Y Ys:List α} {k j:Nat} (h:(Y.drop k).take Ys.length = Ys) (hj:j < Ys.length):Y[k + j]? = Ys[j]?:=by
 have e:(Y.drop k)[j]? = Ys[j]?:=by
  rw [← h] at hj ⊢
  rw [List.getElem?_take,if_pos]
  rw [h] at hj;exact hj
 rw [← e,List.getElem?_drop]
theorem Row.pub {α:Type} {e:El α} {G:Hp} {a:Option Addr} {n c:Nat} {l:List α} {vs:List Value} (h:Row e l n vs) (hp:PubRow G a n c vs) (hb:n≤140737488355328):SlV e G (.slice a n c) l:=hp.slV h.vs h.n.symm hb
theorem SlV.nil {α:Type} {e:El α} {G:Hp}:SlV e G (.slice none 0 0) []:=⟨none,0,0,rfl,⟨rfl,Nat.le_refl _,fun h=>absurd rfl h,fun i hi=>by simp at hi⟩,Nat.zero_le _⟩
theorem pur_sl_nil {P:Program} {t e:TypeId} (h:P.underlying t = some (.slice e)) (a:Option Addr) (n c n' c':Nat):∀ w,((POp.bin .eql t).sem [.slice a n c, .slice none n' c']).run P w = .ok (.bool a.isNone) w:=fun w=>by
 have e1:(POp.bin .eql t).sem [.slice a n c, .slice none n' c'] = (do eqGuard .eql t (.tmp 0) (.tmp 0) (.slice a n c) (.slice none n' c');binOp .eql t (.slice a n c) (.slice none n' c')):=rfl
 have e2:eqGuard .eql t (.tmp 0) (.tmp 0) (.slice a n c) (.slice none n' c') = pure ():=rfl
 rw [e1,e2]
 simp only [pure_bind]
 simp only [binOp]
 simp [Op.equal,Op.maxDepth,Lib.run_equalIn_slice_nil w 9999 t e a n c n' c' h]
theorem PurP.of {P:Program} {s:Sem Value} {A:Value→Prop} (v:Value) (h:∀ w,s.run P w = .ok v w) (k:W (A v)):PurP P s A:=⟨v,h,k⟩
theorem Row.of_all {α:Type} {e:El α} (l:List α) {n:Nat} (h:l.length = n):Row e l n (l.map e.f).flatten:=⟨h.symm,rfl⟩
/-! short names,for the many steps -/
theorem ob {φ A:Prop} (h:φ) (k:A):OblP φ A:=⟨h,⟨k⟩⟩
theorem ble {a b:Nat} (h:Nat.ble a b = true):a≤b:=Nat.le_of_ble_eq_true h
theorem ra {G:Hp} {b off n:Nat} {A:List Value→Prop} {cs:List Value} (h2:CellsAt G b off cs) (h1:cs.length = n) (h3:A cs):RdP G b off n A:=RdP.at h2 h1 (W.mk h3)
theorem rb {G:Hp} {b off d n:Nat} {A:List Value→Prop} {cs:List Value} (h2:CellsAt G b off cs) (h1:((cs.drop d).take n).length = n) (h3:A ((cs.drop d).take n)):RdP G b (off + d) n A:=RdP.sub h2 h1 (W.mk h3)
theorem rc {G:Hp} {b off d e n:Nat} {A:List Value→Prop} {cs:List Value} (h2:CellsAt G b off cs) (h1:((cs.drop (d + e)).take n).length = n) (h3:A ((cs.drop (d + e)).take n)):RdP G b (off + d + e) n A:=RdP.sub2 h2 h1 (W.mk h3)
theorem rd {G:Hp} {b off d e f n:Nat} {A:List Value→Prop} {cs:List Value} (h2:CellsAt G b off cs) (h1:((cs.drop (d + e + f)).take n).length = n) (h3:A ((cs.drop (d + e + f)).take n)):RdP G b (off + d + e + f) n A:=RdP.sub3 h2 h1 (W.mk h3)
end Go.Pal

namespace Go.Proofs.Ytpcpjmplgladmaa
open Go.Pal
set_option maxRecDepth 100000
def intE:El Int:=⟨1,fun p=>[I p],fun {x y} h=>by simp at h;exact h,fun _=>rfl,fun _ v hv=>by simp at hv;rw [hv];rfl⟩
structure Od where
 f:Int
 t:Int
 k:Int
 u:Int
 deriving DecidableEq
def odE:El Od:=⟨4,fun o=>[I o.f,I o.t,I o.k,I o.u],fun {x y} h=>by cases x;cases y;simp at h;simp [h],fun _=>rfl,fun _ v hv=>by simp at hv;rcases hv with rfl | rfl | rfl | rfl<;>rfl⟩
def odRd:Rd Od:=⟨fun _ v o=>v = .agg #[I o.f,I o.t,I o.k,I o.u],fun {_ _ x y} h h'=>by rw [h] at h';cases x;cases y;simp at h';simp [h'],fun {_ _ _ _} _ h=>h⟩
structure Wd where
 text:ByteArray
 heads:List Int
def WdR (G:Hp) (cs:List Value) (w:Wd):Prop:=∃ h,cs = [.string w.text,h]∧SlV intE G h w.heads
theorem WdR.uniq {G:Hp} {cs:List Value} {x y:Wd} (h:WdR G cs x) (h':WdR G cs y):x = y:=by
 obtain ⟨a,e,h1⟩:=h
 obtain ⟨b,e',h2⟩:=h'
 rw [e] at e'
 simp only [List.cons.injEq,Value.string.injEq,and_true] at e'
 obtain ⟨e1,e2⟩:=e'
 subst e2
 have:=h1.uniq h2
 cases x;cases y;simp_all
theorem WdR.grow {G G':Hp} (hg:Grow G G') {cs:List Value} {x:Wd} (h:WdR G cs x):WdR G' cs x:=by
 obtain ⟨a,e,h1⟩:=h
 exact ⟨a,e,h1.grow hg⟩
structure Rp where
 words:List Wd
 orders:List Od
 cols:Int
def WdsV (G:Hp) (v:Value) (ws:List Wd):Prop:=∃ a n c,v = .slice a n c∧SlR 2 WdR G a n c ws∧n≤140737488355328
theorem WdsV.grow {G G':Hp} (hg:Grow G G') {v:Value} {ws:List Wd} (h:WdsV G v ws):WdsV G' v ws:=by
 obtain ⟨a,n,c,e,h1,h2⟩:=h
 exact ⟨a,n,c,e,SlR.grow (fun _ _ h=>h.grow hg) h1 hg,h2⟩
structure RpC (G:Hp) (w o:Value) (r:Rp):Prop where
 w:WdsV G w r.words
 o:SlV odE G o r.orders
theorem RpC.grow {G G':Hp} (hg:Grow G G') {w o:Value} {r:Rp} (h:RpC G w o r):RpC G' w o r:=⟨h.w.grow hg,h.o.grow hg⟩
def RpV (G:Hp) (v:Value) (r:Rp):Prop:=∃ w o,v = .agg #[w,o,I r.cols]∧RpC G w o r
def rpRd:Rd Rp:=⟨RpV,fun {_ _ x y} ⟨w,o,h,h1⟩ ⟨w',o',h',h1'⟩=>by
  subst h
  simp only [Value.agg.injEq,Array.mk.injEq,List.cons.injEq,Value.int.injEq,true_and,and_true] at h'
  obtain ⟨e1,e2,e3⟩:=h'
  subst e1;subst e2
  obtain ⟨a,n,c,rfl,k1,_⟩:=h1.w
  obtain ⟨a',n',c',e,k2,_⟩:=h1'.w
  cases e
  have m1:=SlR.uniq (fun cs x y h h'=>WdR.uniq h h') k1 k2
  have m2:=h1.o.uniq h1'.o
  cases x;cases y;simp_all,fun hg ⟨w,o,h,h1⟩=>⟨w,o,h,h1.grow hg⟩⟩
structure Rx where
 year:Int
 may:List Int
def RxV (G:Hp) (v:Value) (x:Rx):Prop:=∃ m,v = .agg #[I x.year,m]∧SlV intE G m x.may
def rxRd:Rd Rx:=⟨RxV,fun {_ _ x y} ⟨m,h,h1⟩ ⟨m',h',h1'⟩=>by
  subst h
  simp only [Value.agg.injEq,Array.mk.injEq,List.cons.injEq,Value.int.injEq,true_and,and_true] at h'
  obtain ⟨e1,e2⟩:=h'
  subst e2
  have:=h1.uniq h1'
  cases x;cases y;simp_all,fun hg ⟨m,h,h1⟩=>⟨m,h,h1.grow hg⟩⟩

/-! ### In,Has,Rising -/
def inF (n lo hi:Int):Bool:=decide (lo≤n∧n≤hi)
def inS:PSpec:=.fn (fun args _=>∃ n lo hi,args = [I n,I lo,I hi]) (fun args=>match args with | [.int _ n, .int _ lo, .int _ hi]=>.bool (inF n lo hi) | _=>undef)
theorem in53:Sound Try.prog 53 id inS:=by
 refine comp53.fn (Tab.nil _) (fun args G h=>?_) (fun args G h=>?_)
 ·obtain ⟨n,lo,hi,rfl⟩:=h;simp
 ·obtain ⟨n,lo,hi,rfl⟩:=h
  (conv=>whnf)
  repeat' (first | (refine IteP.mk (fun _=>W.mk ?_) (fun _=>W.mk ?_)<;>(conv=>whnf)) | (refine ob ?_ ?_;(first | trivial | omega | (simp only [inR];omega) | exact ble (by rfl) | exact SlR.some ‹_› (by omega));(conv=>whnf)) | (refine ForkP.mk (fun _=>W.mk ?_) (fun _=>W.mk ?_)<;>(conv=>whnf)) | (refine ra ‹_› (by rfl) ?_;(conv=>whnf)) | (refine rb ‹_› (by rfl) ?_;(conv=>whnf)) | (refine rc ‹_› (by rfl) ?_;(conv=>whnf)) | (refine rd ‹_› (by rfl) ?_;(conv=>whnf)) | (refine FinP.mk ?_))
  all_goals (refine congrArg Value.bool ?_;simp [inF, *])
theorem has24:Sound Try.prog 24 id (gsca (args2 (slRd intE) intRd fun _ _=>True) fun x v=>v = .bool (x.1.contains x.2)):=by
 refine comp24.gsca (Tab.nil _) (fun args G s h=>?_) (fun args G x h=>?_)
 ·obtain ⟨v,w,rfl,_⟩:=h;simp
 ·obtain ⟨l,q⟩:=x
  obtain ⟨u,v,rfl,⟨a,n,c,rfl,hl,hn⟩,rfl,_⟩:=h
  dsimp only at hl
  have hlen:=hl.len
  dsimp only
  (conv=>whnf)
  refine LoopP.of { α:=Nat,fr:=fun x=>[(0, .v (.slice a n c)),(1, .v (I q)),(5, .v (I x))],H:=fun _=>[],ok:=fun i _=>i≤l.length∧(l.drop i).contains q = l.contains q,m:=fun x=>l.length - x }
   0 (HeadP.of [] ⟨rfl,rfl,rfl,trivial⟩ trivial) ⟨Nat.zero_le _,rfl⟩ (fun _=>⟨rfl,rfl⟩) (fun (i:Nat) G' hG hx=>W.mk ?_)
  obtain ⟨hi,hx⟩:=hx
  replace hl:=SlR.grow (G:=G) (G':=G') (fun _ _ h=>h) hl hG
  dsimp only
  (conv=>whnf)
  refine IteP.mk (fun hlt=>W.mk ?_) (fun hge=>W.mk ?_)<;>(conv=>whnf)
  ·have hlt:i < l.length:=by omega
   have hc:=hl.el hlt
   rw [List.drop_eq_getElem_cons hlt,List.contains_cons] at hx
   repeat' (first | (refine ob ?_ ?_;(first | trivial | omega | (simp only [inR];omega) | exact ble (by rfl) | exact SlR.some ‹_› (by omega));(conv=>whnf)) | (first | (refine ra ‹_› (by rfl) ?_;(conv=>whnf)) | (refine rb ‹_› (by rfl) ?_;(conv=>whnf)) | (refine rc ‹_› (by rfl) ?_;(conv=>whnf)) | (refine rd ‹_› (by rfl) ?_;(conv=>whnf))))
   refine IteP.mk (fun hq=>W.mk ?_) (fun hq=>W.mk ?_)<;>(conv=>whnf)
   ·refine FinP.mk ?_
    refine congrArg Value.bool ?_
    rw [← hx, ← hq];simp
   ·(refine ob ?_ ?_;(first | trivial | omega | (simp only [inR];omega) | exact ble (by rfl) | exact SlR.some ‹_› (by omega));(conv=>whnf))
    refine RoundP.of (i + 1) (HeadP.of [] ⟨rfl,rfl,rfl,trivial⟩ trivial) ⟨hlt, ?_⟩ (by simp only;omega)
    rw [← hx]
    have:(q == l[i]) = false:=by simp only [beq_eq_false_iff_ne];exact fun e=>hq e.symm
    rw [this,Bool.false_or]
  ·have:i = l.length:=by omega
   subst this
   rw [List.drop_length] at hx
   refine FinP.mk ?_
   refine congrArg Value.bool ?_
   rw [← hx];rfl
def risAt (most:Int) (l:List Int) (i:Nat):Bool:=inF (l.getD i 0) 0 most && (decide (i = 0) || decide (l.getD (i - 1) 0 < l.getD i 0))
def risM (most:Int) (l:List Int):Bool:=(List.range l.length).all (risAt most l)
theorem risM_true {most:Int} {l:List Int} (h:∀ i,i < l.length→risAt most l i = true):risM most l = true:=by
 simp only [risM,List.all_eq_true,List.mem_range];exact h
theorem risM_false {most:Int} {l:List Int} {i:Nat} (hi:i < l.length) (h:risAt most l i = false):risM most l = false:=by
 cases hr:risM most l with
 | false=>rfl
 | true =>
  simp only [risM,List.all_eq_true,List.mem_range] at hr
  rw [hr i hi] at h;cases h
theorem gd0 {l:List Int} {k:Nat} (h:k < l.length):l.getD k 0 = l[k]:=by simp [h]
def tabA:Tab Try.prog:=Tab.cons 53 _ in53 body53 (Tab.cons 24 _ has24 body24 (Tab.nil _))
theorem ris60:Sound Try.prog 60 id (gsca (args2 (slRd intE) intRd fun _ _=>True) fun x v=>v = .bool (risM x.2 x.1)):=by
 refine comp60.gsca tabA (fun args G s h=>?_) (fun args G x h=>?_)
 ·obtain ⟨v,w,rfl,_⟩:=h;simp
 ·obtain ⟨l,q⟩:=x
  obtain ⟨u,v,rfl,⟨a,n,c,rfl,hl,hn⟩,rfl,_⟩:=h
  dsimp only at hl
  have hlen:=hl.len
  dsimp only
  (conv=>whnf)
  refine LoopP.of { α:=Nat,fr:=fun x=>[(0, .v (.slice a n c)),(1, .v (I q)),(5, .v (I x))],H:=fun _=>[],ok:=fun i _=>i≤l.length∧∀ k,k < i→risAt q l k = true,m:=fun x=>l.length - x }
   0 (HeadP.of [] ⟨rfl,rfl,rfl,trivial⟩ trivial) ⟨Nat.zero_le _,fun k hk=>by omega⟩ (fun _=>⟨rfl,rfl⟩) (fun (i:Nat) G' hG hx=>W.mk ?_)
  obtain ⟨hi,hx⟩:=hx
  replace hl:=SlR.grow (G:=G) (G':=G') (fun _ _ h=>h) hl hG
  dsimp only
  (conv=>whnf)
  refine IteP.mk (fun hlt=>W.mk ?_) (fun hge=>W.mk ?_)<;>(conv=>whnf)
  ·have hlt:i < l.length:=by omega
   have hc:=hl.el hlt
   have hat:risAt q l i = (inF (l.getD i 0) 0 q && (decide (i = 0) || decide (l.getD (i - 1) 0 < l.getD i 0))):=rfl
   have fin:∀ b,risAt q l i = b→b = true→∀ k,k < i + 1→risAt q l k = true:=fun b h1 h2 k hk=>by
    rcases Nat.lt_succ_iff_lt_or_eq.1 hk with h | rfl
    ·exact hx k h
    ·rw [h1,h2]
   rw [gd0 hlt] at hat
   repeat' (first | (refine ob ?_ ?_;(first | trivial | omega | (simp only [inR];omega) | exact ble (by rfl) | exact SlR.some ‹_› (by omega));(conv=>whnf)) | (first | (refine ra ‹_› (by rfl) ?_;(conv=>whnf)) | (refine rb ‹_› (by rfl) ?_;(conv=>whnf)) | (refine rc ‹_› (by rfl) ?_;(conv=>whnf)) | (refine rd ‹_› (by rfl) ?_;(conv=>whnf))))
   refine OblP.mk ⟨_,_,_,rfl⟩ (W.mk ?_)
   (conv=>whnf)
   refine ForkP.mk (fun hq=>W.mk ?_) (fun hq=>W.mk ?_)<;>(conv=>whnf)
   ·have hq:inF l[i] 0 q = true:=hq
    rw [hq,Bool.true_and] at hat
    cases i with
    | zero =>
     repeat' (first | (refine IteP.mk (fun _=>W.mk ?_) (fun _=>W.mk ?_)<;>first | (exfalso;omega) | (conv=>whnf)) | (refine ob ?_ ?_;(first | trivial | omega | (simp only [inR];omega) | exact ble (by rfl) | exact SlR.some ‹_› (by omega));(conv=>whnf)) | (first | (refine ra ‹_› (by rfl) ?_;(conv=>whnf)) | (refine rb ‹_› (by rfl) ?_;(conv=>whnf)) | (refine rc ‹_› (by rfl) ?_;(conv=>whnf)) | (refine rd ‹_› (by rfl) ?_;(conv=>whnf))))
     refine RoundP.of 1 (HeadP.of [] ⟨rfl,rfl,rfl,trivial⟩ trivial) ⟨hlt,fin _ hat rfl⟩ (by simp only;omega)
    | succ k =>
     have hlk:k < l.length:=by omega
     have hck:=hl.el hlk
     rw [show k + 1 - 1 = k by omega,gd0 hlk] at hat
     have hck:CellsAt G' (ab a) (ao a + (((k + 1:Nat):Int) - 1).toNat * 1) (intE.f l[k]):=by
      rw [show (((k + 1:Nat):Int) - 1).toNat = k by omega];exact hck
     refine IteP.mk (fun _=>W.mk ?_) (fun h=>by exfalso;omega)
     (conv=>whnf)
     repeat' (first | (refine ob ?_ ?_;(first | trivial | omega | (simp only [inR];omega) | exact ble (by rfl) | exact SlR.some ‹_› (by omega));(conv=>whnf)) | (first | (refine ra ‹_› (by rfl) ?_;(conv=>whnf)) | (refine rb ‹_› (by rfl) ?_;(conv=>whnf)) | (refine rc ‹_› (by rfl) ?_;(conv=>whnf)) | (refine rd ‹_› (by rfl) ?_;(conv=>whnf))))
     generalize l[k] = p at hat ⊢
     generalize l[k + 1] = p2 at hat ⊢
     refine IteP.mk (fun h5=>W.mk ?_) (fun h5=>W.mk ?_)<;>(conv=>whnf)
     ·have h5:p2≤p:=h5
      refine FinP.mk ?_
      refine congrArg Value.bool ?_
      refine (risM_false hlt ?_).symm
      rw [hat,decide_eq_false (by omega:¬ k + 1 = 0),decide_eq_false (by omega:¬ p < p2)];rfl
     ·have h5:¬ p2≤p:=h5
      repeat' (first | (refine ob ?_ ?_;(first | trivial | omega | (simp only [inR];omega) | exact ble (by rfl) | exact SlR.some ‹_› (by omega));(conv=>whnf)) | (first | (refine ra ‹_› (by rfl) ?_;(conv=>whnf)) | (refine rb ‹_› (by rfl) ?_;(conv=>whnf)) | (refine rc ‹_› (by rfl) ?_;(conv=>whnf)) | (refine rd ‹_› (by rfl) ?_;(conv=>whnf))))
      refine RoundP.of (k + 2) (HeadP.of [] ⟨rfl,rfl,rfl,trivial⟩ trivial) ⟨hlt,fin _ hat ?_⟩ (by simp only;omega)
      rw [decide_eq_true (by omega:p < p2),Bool.or_true]
   ·have hq:inF l[i] 0 q = false:=hq
    rw [hq,Bool.false_and] at hat
    refine FinP.mk ?_
    refine congrArg Value.bool ?_
    exact (risM_false hlt hat).symm
  ·have:i = l.length:=by omega
   subst this
   refine FinP.mk ?_
   refine congrArg Value.bool ?_
   exact (risM_true hx).symm
end Go.Proofs.Ytpcpjmplgladmaa

namespace Go.Proofs.Ytpcpjmplgladmaa
open Go.Pal
set_option maxRecDepth 100000
def holdsF (o:Od) (x:Rx):Bool:=decide (x.year < o.u) && !x.may.contains o.k
theorem holds41:Sound Try.prog 41 id (gsca (args2 odRd rxRd fun _ _=>True) fun p v=>v = .bool (holdsF p.1 p.2)):=by
 refine comp41.gsca tabA (fun args G s h=>?_) (fun args G p h=>?_)
 ·obtain ⟨v,w,rfl,_⟩:=h;simp
 ·obtain ⟨o,x⟩:=p
  obtain ⟨u,v,rfl,rfl,⟨m,rfl,hm⟩,_⟩:=h
  dsimp only at hm
  obtain ⟨a,n,c,rfl,hm1,hm2⟩:=hm
  dsimp only
  (conv=>whnf)
  repeat' (first | (refine ob ?_ ?_;(first | trivial | omega | (simp only [inR];omega) | exact ble (by rfl) | exact SlR.some ‹_› (by omega));(conv=>whnf)) | (first | (refine ra ‹_› (by rfl) ?_;(conv=>whnf)) | (refine rb ‹_› (by rfl) ?_;(conv=>whnf)) | (refine rc ‹_› (by rfl) ?_;(conv=>whnf)) | (refine rd ‹_› (by rfl) ?_;(conv=>whnf))))
  refine IteP.mk (fun h1=>W.mk ?_) (fun h1=>W.mk ?_)<;>(conv=>whnf)
  ·refine ScaP.g (ok2 (slRd intE) intRd fun _ _=>True) (x:=(x.may,o.k)) ⟨_,_,rfl,⟨_,_,_,rfl,hm1,hm2⟩,rfl,trivial⟩ (fun v hv=>W.mk ?_)
   subst hv
   dsimp only
   (conv=>whnf)
   refine ForkP.mk (fun hq=>W.mk ?_) (fun hq=>W.mk ?_)<;>(conv=>whnf)<;>refine FinP.mk ?_<;>(refine congrArg Value.bool ?_;rw [holdsF,decide_eq_true h1,hq];rfl)
  ·refine FinP.mk ?_
   refine congrArg Value.bool ?_
   rw [holdsF,decide_eq_false h1];rfl
def hidO (x:Rx) (w:Int) (o:Od):Bool:=holdsF o x && inF w o.f (o.t - 1)
def hidF (r:Rp) (x:Rx) (w:Int):Bool:=r.orders.any (hidO x w)
def ordB (r:Rp):Prop:=∀ o∈r.orders,0≤o.t∧o.t≤1000
def tabB:Tab Try.prog:=Tab.cons 41 _ holds41 body41 tabA
theorem hidden35:Sound Try.prog 35 id (gsca (args3 rpRd rxRd intRd fun r _ _=>ordB r) fun p v=>v = .bool (hidF p.1 p.2.1 p.2.2)):=by
 refine comp35.gsca tabB (fun args G s h=>?_) (fun args G p h=>?_)
 ·obtain ⟨v,w,u,rfl,_⟩:=h;simp
 ·obtain ⟨r,x,q⟩:=p
  obtain ⟨u,v,w,rfl,⟨rw_,ro,rfl,hrc⟩,⟨m,rfl,hm⟩,rfl,hb⟩:=h
  dsimp only at hrc hm hb
  obtain ⟨oa,on,oc,rfl,ho1,ho2⟩:=hrc.o
  obtain ⟨wa,wn,wc,rfl,hw1,hw2⟩:=hrc.w
  obtain ⟨ma,mn,mc,rfl,hm1,hm2⟩:=id hm
  have hol:=ho1.len
  dsimp only
  (conv=>whnf)
  refine LoopP.of { α:=Nat,fr:=fun i=>[(2, .v (I q)),(3, .c (.ptr 0 0)),(4, .c (.ptr 1 0)),(7, .v (I i))],H:=fun _=>[(0, .cells .anon [.val (.slice wa wn wc), .val (.slice oa on oc), .val (I r.cols)] 25),(1, .cells .anon [.val (I x.year), .val (.slice ma mn mc)] 28)],ok:=fun i _=>i≤on∧(r.orders.drop i).any (hidO x q) = hidF r x q,m:=fun i=>on - i }
   0 (HeadP.of [] ⟨rfl,rfl,rfl,rfl,trivial⟩ ⟨rfl,rfl,trivial⟩) ⟨Nat.zero_le _,rfl⟩ (fun _=>⟨rfl,rfl⟩) (fun (i:Nat) G' hG hx=>W.mk ?_)
  obtain ⟨hi,hx⟩:=hx
  dsimp only
  (conv=>whnf)
  refine IteP.mk (fun hlt=>W.mk ?_) (fun hge=>W.mk ?_)<;>(conv=>whnf)
  ·have hlt:i < r.orders.length:=by omega
   have hc:=(SlR.grow (G:=G) (G':=G') (fun _ _ h=>h) ho1 hG).el hlt
   have hob:=hb _ (List.getElem_mem hlt)
   rw [List.drop_eq_getElem_cons hlt,List.any_cons] at hx
   generalize r.orders[i] = o at hc hob hx
   obtain ⟨f,t,k,y⟩:=o
   dsimp only at hob
   repeat' (first | (refine ob ?_ ?_;(first | trivial | omega | (simp only [inR];omega) | exact ble (by rfl) | exact SlR.some ‹_› (by omega));(conv=>whnf)) | (first | (refine ra ‹_› (by rfl) ?_;(conv=>whnf)) | (refine rb ‹_› (by rfl) ?_;(conv=>whnf)) | (refine rc ‹_› (by rfl) ?_;(conv=>whnf)) | (refine rd ‹_› (by rfl) ?_;(conv=>whnf))))
   refine ScaP.g (ok2 odRd rxRd fun _ _=>True) (x:=(⟨f,t,k,y⟩,x)) ⟨_,_,rfl,rfl,⟨_,rfl,hm.grow hG⟩,trivial⟩ (fun v hv=>W.mk ?_)
   subst hv
   dsimp only
   rw [hidO] at hx
   (conv=>whnf)
   refine ForkP.mk (fun hq=>W.mk ?_) (fun hq=>W.mk ?_)<;>(conv=>whnf)
   ·rw [hq,Bool.true_and] at hx
    repeat' (first | (refine ob ?_ ?_;(first | trivial | omega | (simp only [inR];omega) | exact ble (by rfl) | exact SlR.some ‹_› (by omega));(conv=>whnf)) | (first | (refine ra ‹_› (by rfl) ?_;(conv=>whnf)) | (refine rb ‹_› (by rfl) ?_;(conv=>whnf)) | (refine rc ‹_› (by rfl) ?_;(conv=>whnf)) | (refine rd ‹_› (by rfl) ?_;(conv=>whnf))))
    refine OblP.mk ⟨_,_,_,rfl⟩ (W.mk ?_)
    (conv=>whnf)
    refine ForkP.mk (fun hn=>W.mk ?_) (fun hn=>W.mk ?_)<;>(conv=>whnf)
    ·have hn:inF q f (t - 1) = true:=hn
     refine FinP.mk ?_
     refine congrArg Value.bool ?_
     rw [← hx,hn];rfl
    ·have hn:inF q f (t - 1) = false:=hn
     rw [hn,Bool.false_or] at hx
     repeat' (first | (refine ob ?_ ?_;(first | trivial | omega | (simp only [inR];omega) | exact ble (by rfl) | exact SlR.some ‹_› (by omega));(conv=>whnf)) | (first | (refine ra ‹_› (by rfl) ?_;(conv=>whnf)) | (refine rb ‹_› (by rfl) ?_;(conv=>whnf)) | (refine rc ‹_› (by rfl) ?_;(conv=>whnf)) | (refine rd ‹_› (by rfl) ?_;(conv=>whnf))))
     exact RoundP.of (i + 1) (HeadP.of [] ⟨rfl,rfl,rfl,rfl,trivial⟩ ⟨rfl,rfl,trivial⟩) ⟨by omega,hx⟩ (by simp only;omega)
   ·rw [hq,Bool.false_and,Bool.false_or] at hx
    repeat' (first | (refine ob ?_ ?_;(first | trivial | omega | (simp only [inR];omega) | exact ble (by rfl) | exact SlR.some ‹_› (by omega));(conv=>whnf)) | (first | (refine ra ‹_› (by rfl) ?_;(conv=>whnf)) | (refine rb ‹_› (by rfl) ?_;(conv=>whnf)) | (refine rc ‹_› (by rfl) ?_;(conv=>whnf)) | (refine rd ‹_› (by rfl) ?_;(conv=>whnf))))
    exact RoundP.of (i + 1) (HeadP.of [] ⟨rfl,rfl,rfl,rfl,trivial⟩ ⟨rfl,rfl,trivial⟩) ⟨by omega,hx⟩ (by simp only;omega)
  ·have:i = r.orders.length:=by omega
   rw [List.drop_of_length_le (by omega)] at hx
   refine FinP.mk ?_
   refine congrArg Value.bool ?_
   rw [← hx];rfl
def rightX (x:Rx):Bool:=inF x.year 0 9999 && risM 7 x.may
def tabC:Tab Try.prog:=Tab.cons 35 _ hidden35 body35 (Tab.cons 60 _ ris60 body60 tabB)
theorem reader49:Sound Try.prog 49 id (gsca (args1 rxRd fun _=>True) fun x v=>v = .bool (rightX x)):=by
 refine comp49.gsca tabC (fun args G s h=>?_) (fun args G x h=>?_)
 ·obtain ⟨v,rfl,_⟩:=h;simp
 ·obtain ⟨u,rfl,⟨m,rfl,hm⟩,_⟩:=h
  obtain ⟨ma,mn,mc,rfl,hm1,hm2⟩:=id hm
  (conv=>whnf)
  repeat' (first | (refine ob ?_ ?_;(first | trivial | omega | (simp only [inR];omega) | exact ble (by rfl) | exact SlR.some ‹_› (by omega));(conv=>whnf)) | (first | (refine ra ‹_› (by rfl) ?_;(conv=>whnf)) | (refine rb ‹_› (by rfl) ?_;(conv=>whnf)) | (refine rc ‹_› (by rfl) ?_;(conv=>whnf)) | (refine rd ‹_› (by rfl) ?_;(conv=>whnf))))
  refine OblP.mk ⟨_,_,_,rfl⟩ (W.mk ?_)
  (conv=>whnf)
  refine ForkP.mk (fun hq=>W.mk ?_) (fun hq=>W.mk ?_)<;>(conv=>whnf)
  ·have hq:inF x.year 0 9999 = true:=hq
   refine ScaP.g (ok2 (slRd intE) intRd fun _ _=>True) (x:=(x.may,7)) ⟨_,_,rfl,hm,rfl,trivial⟩ (fun v hv=>W.mk ?_)
   subst hv
   dsimp only
   (conv=>whnf)
   refine ForkP.mk (fun hn=>W.mk ?_) (fun hn=>W.mk ?_)<;>(conv=>whnf)<;>refine FinP.mk ?_<;>(refine congrArg Value.bool ?_;rw [rightX,hq,hn];rfl)
  ·have hq:inF x.year 0 9999 = false:=hq
   refine FinP.mk ?_
   refine congrArg Value.bool ?_
   rw [rightX,hq];rfl
end Go.Proofs.Ytpcpjmplgladmaa

namespace Go.Proofs.Ytpcpjmplgladmaa
open Go.Pal
set_option maxRecDepth 100000
def shK (r:Rp) (x:Rx):Nat→List Int
 | 0=>[]
 | i + 1=>if hidF r x i then (if (shK r x i).length = 0∨(shK r x i).getD ((shK r x i).length - 1) 0≠-1 then shK r x i++[-1] else shK r x i) else shK r x i++[(i:Int)]
theorem shK_len (r:Rp) (x:Rx):∀ i,(shK r x i).length≤i
 | 0=>by simp [shK]
 | i + 1=>by
  have:=shK_len r x i
  simp only [shK]
  split
  ·split
   ·simp;omega
   ·omega
  ·simp;omega
def shF (r:Rp) (x:Rx):List Int:=shK r x r.words.length
def RpOk (r:Rp):Prop:=ordB r∧r.words.length≤1000
theorem shown33:Sound Try.prog 33 id (grel (args2 rpRd rxRd fun r _=>RpOk r) fun p v G=>SlV intE G v (shF p.1 p.2)):=by
 refine comp33.grel tabC (ok2 _ _ _) (fun args G s h=>?_) (fun x v G G' hg h=>h.grow hg) (fun args G p h=>?_)
 ·obtain ⟨v,w,rfl,_⟩:=h;simp
 ·obtain ⟨r,x⟩:=p
  obtain ⟨u,v,rfl,⟨rw_,ro,rfl,hrc⟩,⟨m,rfl,hm⟩,hb,hwl⟩:=h
  dsimp only at hrc hm hb hwl
  obtain ⟨oa,on,oc,rfl,ho1,ho2⟩:=id hrc.o
  obtain ⟨wa,wn,wc,rfl,hw1,hw2⟩:=id hrc.w
  obtain ⟨ma,mn,mc,rfl,hm1,hm2⟩:=id hm
  have hwn:=hw1.len
  dsimp only
  (conv=>whnf)
  refine LoopP.of { α:=Nat × Nat × List Value,fr:=fun y=>[(2, .c (.ptr 0 0)),(3, .c (.ptr 1 0)),(5, .c (.row 3 y.2.1)),(6, .v (I y.1))],H:=fun y=>[(0, .cells .anon [.val (.slice wa wn wc), .val (.slice oa on oc), .val (I r.cols)] 25),(1, .cells .anon [.val (I x.year), .val (.slice ma mn mc)] 28),(3, .row none y.2.1 y.2.2 3 1)],ok:=fun y _=>y.1≤wn∧Row intE (shK r x y.1) y.2.1 y.2.2,m:=fun y=>wn - y.1 }
   (0,0,[]) (HeadP.of [(3,none)] ⟨rfl,rfl,rfl,rfl,trivial⟩ ⟨rfl,rfl,rfl,trivial⟩) ⟨Nat.zero_le _,Row.nil⟩ (fun _=>⟨rfl,rfl⟩) (fun y G1 hg1 hx=>W.mk ?_)
  obtain ⟨i,n,vs⟩:=y
  obtain ⟨hi,hrow⟩:=hx
  dsimp only at hi hrow
  have hrn:=hrow.n
  have hsl:=shK_len r x i
  dsimp only
  (conv=>whnf)
  refine IteP.mk (fun hlt=>W.mk ?_) (fun hge=>W.mk ?_)<;>(conv=>whnf)
  ·have hsu:shK r x (i + 1) = if hidF r x i then (if (shK r x i).length = 0∨(shK r x i).getD ((shK r x i).length - 1) 0≠-1 then shK r x i++[-1] else shK r x i) else shK r x i++[(i:Int)]:=rfl
   refine ScaP.g (ok3 rpRd rxRd intRd fun r _ _=>ordB r) (x:=(r,x,(i:Int))) ⟨_,_,_,rfl,⟨_,_,rfl,hrc.grow hg1⟩,⟨_,rfl,hm.grow hg1⟩,rfl,hb⟩ (fun v hv=>W.mk ?_)
   subst hv
   dsimp only
   (conv=>whnf)
   refine ForkP.mk (fun hq=>W.mk ?_) (fun hq=>W.mk ?_)<;>(conv=>whnf)
   ·rw [if_pos hq] at hsu
    generalize shK r x i = L at *
    refine IteP.mk (fun hz=>W.mk ?_) (fun hz=>W.mk ?_)<;>(conv=>whnf)
    ·repeat' (first | (refine OblP.mk rfl (W.mk ?_);(conv=>whnf)) | (refine ob ?_ ?_;(first | trivial | omega | (simp only [inR];omega) | exact ble (by rfl) | exact SlR.some ‹_› (by omega));(conv=>whnf)) | (first | (refine ra ‹_› (by rfl) ?_;(conv=>whnf)) | (refine rb ‹_› (by rfl) ?_;(conv=>whnf)) | (refine rc ‹_› (by rfl) ?_;(conv=>whnf)) | (refine rd ‹_› (by rfl) ?_;(conv=>whnf))))
     rw [if_pos (.inl (by omega))] at hsu
     refine RoundP.of (i + 1,n + 1,vs++[I (-1)]) (HeadP.of [(3,some 34)] ⟨rfl,rfl,rfl,rfl,trivial⟩ ⟨rfl,rfl,rfl,trivial⟩) ⟨by show i + 1≤wn;omega, ?_⟩ (by simp only;omega)
     rw [hsu]
     exact hrow.snoc (-1)
    ·have hn1:n - 1 < L.length:=by omega
     have hat:=hrow.at hn1
     have hgd:L.getD (L.length - 1) 0 = L[n - 1]:=by rw [← hrn];exact gd0 hn1
     rw [hgd] at hsu
     generalize L[n - 1] = last at hat hsu
     have hat:(vs.drop (((n:Int) - 1).toNat * 1)).take 1 = [I last]:=by
      rw [show ((n:Int) - 1).toNat = n - 1 by omega];exact hat
     repeat' (first | (refine ob ?_ ?_;(first | trivial | omega | (simp only [inR];omega) | exact ble (by rfl) | exact SlR.some ‹_› (by omega));(conv=>whnf)) | (first | (refine ra ‹_› (by rfl) ?_;(conv=>whnf)) | (refine rb ‹_› (by rfl) ?_;(conv=>whnf)) | (refine rc ‹_› (by rfl) ?_;(conv=>whnf)) | (refine rd ‹_› (by rfl) ?_;(conv=>whnf))))
     refine EqP.mk ⟨_,hat,rfl,W.mk ?_⟩
     (conv=>whnf)
     repeat' (first | (refine ob ?_ ?_;(first | trivial | omega | (simp only [inR];omega) | exact ble (by rfl) | exact SlR.some ‹_› (by omega));(conv=>whnf)) | (first | (refine ra ‹_› (by rfl) ?_;(conv=>whnf)) | (refine rb ‹_› (by rfl) ?_;(conv=>whnf)) | (refine rc ‹_› (by rfl) ?_;(conv=>whnf)) | (refine rd ‹_› (by rfl) ?_;(conv=>whnf))))
     refine IteP.mk (fun h5=>W.mk ?_) (fun h5=>W.mk ?_)<;>(conv=>whnf)
     ·have h5:last = -1:=h5
      rw [if_neg (by omega)] at hsu
      repeat' (first | (refine ob ?_ ?_;(first | trivial | omega | (simp only [inR];omega) | exact ble (by rfl) | exact SlR.some ‹_› (by omega));(conv=>whnf)) | (first | (refine ra ‹_› (by rfl) ?_;(conv=>whnf)) | (refine rb ‹_› (by rfl) ?_;(conv=>whnf)) | (refine rc ‹_› (by rfl) ?_;(conv=>whnf)) | (refine rd ‹_› (by rfl) ?_;(conv=>whnf))))
      refine RoundP.of (i + 1,n,vs) (HeadP.of [] ⟨rfl,rfl,rfl,rfl,trivial⟩ ⟨rfl,rfl,rfl,trivial⟩) ⟨by show i + 1≤wn;omega, ?_⟩ (by simp only;omega)
      rw [hsu]
      exact hrow
     ·have h5:¬ last = -1:=h5
      rw [if_pos (.inr h5)] at hsu
      repeat' (first | (refine OblP.mk rfl (W.mk ?_);(conv=>whnf)) | (refine ob ?_ ?_;(first | trivial | omega | (simp only [inR];omega) | exact ble (by rfl) | exact SlR.some ‹_› (by omega));(conv=>whnf)) | (first | (refine ra ‹_› (by rfl) ?_;(conv=>whnf)) | (refine rb ‹_› (by rfl) ?_;(conv=>whnf)) | (refine rc ‹_› (by rfl) ?_;(conv=>whnf)) | (refine rd ‹_› (by rfl) ?_;(conv=>whnf))))
      refine RoundP.of (i + 1,n + 1,vs++[I (-1)]) (HeadP.of [(3,some 34)] ⟨rfl,rfl,rfl,rfl,trivial⟩ ⟨rfl,rfl,rfl,trivial⟩) ⟨by show i + 1≤wn;omega, ?_⟩ (by simp only;omega)
      rw [hsu]
      exact hrow.snoc (-1)
   ·rw [if_neg (by rw [hq];simp)] at hsu
    repeat' (first | (refine OblP.mk rfl (W.mk ?_);(conv=>whnf)) | (refine ob ?_ ?_;(first | trivial | omega | (simp only [inR];omega) | exact ble (by rfl) | exact SlR.some ‹_› (by omega));(conv=>whnf)) | (first | (refine ra ‹_› (by rfl) ?_;(conv=>whnf)) | (refine rb ‹_› (by rfl) ?_;(conv=>whnf)) | (refine rc ‹_› (by rfl) ?_;(conv=>whnf)) | (refine rd ‹_› (by rfl) ?_;(conv=>whnf))))
    refine RoundP.of (i + 1,n + 1,vs++[I (i:Nat)]) (HeadP.of [(3,some 18)] ⟨rfl,rfl,rfl,rfl,trivial⟩ ⟨rfl,rfl,rfl,trivial⟩) ⟨by show i + 1≤wn;omega, ?_⟩ (by simp only;omega)
    rw [hsu]
    exact hrow.snoc (i:Int)
  ·have:i = r.words.length:=by omega
   subst this
   refine PubP.mk (fun a1 c1 G2 hg2 hp=>W.mk ?_)
   (conv=>whnf)
   exact FinP.mk (hrow.pub hp (by omega))
end Go.Proofs.Ytpcpjmplgladmaa

namespace Go.Proofs.Ytpcpjmplgladmaa
open Go.Pal
set_option maxRecDepth 100000
theorem und9:Try.prog.underlying 9 = some .string:=by kernel_rfl
def byteAt (s:ByteArray) (k:Nat):Int:=if h:k < s.size then ((s[k]).toNat:Int) else 0
theorem idx9 (s:ByteArray) (k:Nat) (h:k < s.size):∀ w,((POp.idx 9).sem [.string s,I k]).run Try.prog w = .ok (.int .u8 (byteAt s k)) w:=fun w=>by
 have e1:(POp.idx 9).sem [.string s,I k] = Instr.index 9 (.string s) (I k):=rfl
 rw [e1]
 simp [Instr.index,run_underlying und9,asIntOf,Result.andThen,h,byteAt]
def badC (c:Int):Bool:=decide (c < 33) || decide (126 < c)
def badT (s:ByteArray):Bool:=(List.range s.size).any fun k=>badC (byteAt s k)
def badW (w:Wd):Bool:=!inF w.text.size 1 20 || !risM 99 w.heads || badT w.text
def badO (n:Int) (o:Od):Bool:=!inF o.t 1 n || !inF o.f 0 (o.t - 1) || !inF o.k 0 7 || !inF o.u 0 9999
def longW (w:Wd):Bool:=decide (5 < w.heads.length)
def faultR (r:Rp):Int:=if 60 < r.words.length∨12 < r.orders.length then 3 else if r.words.any longW then 3 else if r.words.any badW || r.orders.any (badO r.words.length) || !inF r.cols 1 20 then 1 else 0
theorem fault32:Sound Try.prog 32 id (gsca (args1 rpRd fun r=>∀ w∈r.words,w.text.size≤1000) fun r v=>v = I (faultR r)):=by
 refine comp32.gsca tabC (fun args G s h=>?_) (fun args G r h=>?_)
 ·obtain ⟨v,rfl,_⟩:=h;simp
 ·obtain ⟨u,rfl,⟨rw_,ro,rfl,hrc⟩,hts⟩:=h
  obtain ⟨oa,on,oc,rfl,ho1,ho2⟩:=id hrc.o
  obtain ⟨wa,wn,wc,rfl,hw1,hw2⟩:=id hrc.w
  have hwn:=hw1.len
  have hon:=ho1.len
  (conv=>whnf)
  have h3:60 < r.words.length∨12 < r.orders.length→faultR r = 3:=fun h=>by rw [faultR,if_pos h]
  refine IteP.mk (fun h1=>W.mk ?_) (fun h1=>W.mk ?_)<;>(conv=>whnf)
  ·refine FinP.mk ?_
   rw [h3 (.inl (by omega))];rfl
  refine IteP.mk (fun h2=>W.mk ?_) (fun h2=>W.mk ?_)<;>(conv=>whnf)
  ·refine FinP.mk ?_
   rw [h3 (.inr (by omega))];rfl
  have hfa:faultR r = if r.words.any longW then 3 else if r.words.any badW || r.orders.any (badO r.words.length) || !inF r.cols 1 20 then 1 else 0:=by rw [faultR,if_neg (by omega)]
  refine LoopP.of { α:=Nat,fr:=fun i=>[(1, .c (.ptr 0 0)),(3, .v (I i))],H:=fun _=>[(0, .cells .anon [.val (.slice wa wn wc), .val (.slice oa on oc), .val (I r.cols)] 25)],ok:=fun i _=>i≤wn∧(r.words.drop i).any longW = r.words.any longW,m:=fun i=>wn - i }
   0 (HeadP.of [] ⟨rfl,rfl,trivial⟩ ⟨rfl,trivial⟩) ⟨Nat.zero_le _,rfl⟩ (fun _=>⟨rfl,rfl⟩) (fun (i:Nat) G1 hg1 hx=>W.mk ?_)
  obtain ⟨hi,hx⟩:=hx
  have hw3:SlR 2 WdR G1 wa wn wc r.words:=SlR.grow (fun _ _ h=>h.grow hg1) hw1 hg1
  dsimp only
  (conv=>whnf)
  refine IteP.mk (fun hlt=>W.mk ?_) (fun hge=>W.mk ?_)<;>(conv=>whnf)
  ·have hlt:i < r.words.length:=by omega
   rw [List.drop_eq_getElem_cons hlt,List.any_cons] at hx
   obtain ⟨cs,_,hc,hv,rfl,ha,hn,hcc,rfl,hh1,hh2⟩:=SlR.cells hw3 hlt
   have hhl:=hh1.len
   have hlw:longW r.words[i] = decide (5 < r.words[i].heads.length):=rfl
   repeat' (first | (refine ob ?_ ?_;(first | trivial | omega | (simp only [inR];omega) | exact ble (by rfl) | exact SlR.some ‹_› (by omega));(conv=>whnf)) | (first | (refine ra ‹_› (by rfl) ?_;(conv=>whnf)) | (refine rb ‹_› (by rfl) ?_;(conv=>whnf)) | (refine rc ‹_› (by rfl) ?_;(conv=>whnf)) | (refine rd ‹_› (by rfl) ?_;(conv=>whnf))))
   refine IteP.mk (fun h5=>W.mk ?_) (fun h5=>W.mk ?_)<;>(conv=>whnf)
   ·refine FinP.mk ?_
    rw [hfa, ← hx,hlw,decide_eq_true (by omega)];rfl
   ·rw [hlw,decide_eq_false (by omega),Bool.false_or] at hx
    repeat' (first | (refine ob ?_ ?_;(first | trivial | omega | (simp only [inR];omega) | exact ble (by rfl) | exact SlR.some ‹_› (by omega));(conv=>whnf)) | (first | (refine ra ‹_› (by rfl) ?_;(conv=>whnf)) | (refine rb ‹_› (by rfl) ?_;(conv=>whnf)) | (refine rc ‹_› (by rfl) ?_;(conv=>whnf)) | (refine rd ‹_› (by rfl) ?_;(conv=>whnf))))
    exact RoundP.of (i + 1) (HeadP.of [] ⟨rfl,rfl,trivial⟩ ⟨rfl,trivial⟩) ⟨by omega,hx⟩ (by simp only;omega)
  have hie:i = r.words.length:=by omega
  rw [List.drop_of_length_le (by omega)] at hx
  have hx:false = r.words.any longW:=hx
  rw [← hx,if_neg (by simp)] at hfa
  clear hx
  refine LoopP.of { α:=Nat,fr:=fun i=>[(1, .c (.ptr 0 0)),(4, .v (I i))],H:=fun _=>[(0, .cells .anon [.val (.slice wa wn wc), .val (.slice oa on oc), .val (I r.cols)] 25)],ok:=fun i _=>i≤wn∧(r.words.drop i).any badW = r.words.any badW,m:=fun i=>wn - i }
   0 (HeadP.of [] ⟨rfl,rfl,trivial⟩ ⟨rfl,trivial⟩) ⟨Nat.zero_le _,rfl⟩ (fun _=>⟨rfl,rfl⟩) (fun (i2:Nat) G2 hg2 hx=>W.mk ?_)
  obtain ⟨hi2,hx⟩:=hx
  have hw4:SlR 2 WdR G2 wa wn wc r.words:=SlR.grow (fun _ _ h=>h.grow hg2) hw3 hg2
  dsimp only
  (conv=>whnf)
  refine IteP.mk (fun hlt=>W.mk ?_) (fun hge=>W.mk ?_)<;>(conv=>whnf)
  ·have hlt:i2 < r.words.length:=by omega
   rw [List.drop_eq_getElem_cons hlt,List.any_cons] at hx
   obtain ⟨cs,_,hc,hv,rfl,ha,hn,hcc,rfl,hh1,hh2⟩:=SlR.cells hw4 hlt
   have hsz:=hts _ (List.getElem_mem hlt)
   have hbw:badW r.words[i2] = (!inF r.words[i2].text.size 1 20 || !risM 99 r.words[i2].heads || badT r.words[i2].text):=rfl
   generalize r.words[i2] = w at *
   repeat' (first | (refine ob ?_ ?_;(first | trivial | omega | (simp only [inR];omega) | exact ble (by rfl) | exact SlR.some ‹_› (by omega));(conv=>whnf)) | (first | (refine ra ‹_› (by rfl) ?_;(conv=>whnf)) | (refine rb ‹_› (by rfl) ?_;(conv=>whnf)) | (refine rc ‹_› (by rfl) ?_;(conv=>whnf)) | (refine rd ‹_› (by rfl) ?_;(conv=>whnf))))
   refine OblP.mk ⟨_,_,_,rfl⟩ (W.mk ?_)
   (conv=>whnf)
   have bad:badW w = true→faultR r = 1:=fun h=>by rw [hfa, ← hx,h];rfl
   refine ForkP.mk (fun hq=>W.mk ?_) (fun hq=>W.mk ?_)<;>(conv=>whnf)
   rotate_left
   ·have hq:inF w.text.size 1 20 = false:=hq
    refine FinP.mk ?_
    rw [bad (by rw [hbw,hq];rfl)];rfl
   have hq:inF w.text.size 1 20 = true:=hq
   repeat' (first | (refine ob ?_ ?_;(first | trivial | omega | (simp only [inR];omega) | exact ble (by rfl) | exact SlR.some ‹_› (by omega));(conv=>whnf)) | (first | (refine ra ‹_› (by rfl) ?_;(conv=>whnf)) | (refine rb ‹_› (by rfl) ?_;(conv=>whnf)) | (refine rc ‹_› (by rfl) ?_;(conv=>whnf)) | (refine rd ‹_› (by rfl) ?_;(conv=>whnf))))
   refine ScaP.g (ok2 (slRd intE) intRd fun _ _=>True) (x:=(w.heads,99)) ⟨_,_,rfl,⟨_,_,_,rfl,hh1,hh2⟩,rfl,trivial⟩ (fun v hv=>W.mk ?_)
   subst hv
   dsimp only
   (conv=>whnf)
   refine ForkP.mk (fun hr=>W.mk ?_) (fun hr=>W.mk ?_)<;>(conv=>whnf)
   rotate_left
   ·refine FinP.mk ?_
    rw [bad (by rw [hbw,hq,hr];rfl)];rfl
   rw [hq,hr] at hbw
   have hbw:badW w = badT w.text:=hbw
   refine LoopP.of { α:=Nat,fr:=fun k=>[(1, .c (.ptr 0 0)),(4, .v (I i2)),(5, .c (.ptr 42 0)),(6, .v (I k))],H:=fun _=>[(0, .cells .anon [.val (.slice wa wn wc), .val (.slice oa on oc), .val (I r.cols)] 25),(42, .cells .anon [.val (.string w.text), .val (.slice ha hn hcc)] 82)],ok:=fun k _=>k≤w.text.size∧∀ j,j < k→badC (byteAt w.text j) = false,m:=fun k=>w.text.size - k }
    0 (HeadP.of [] ⟨rfl,rfl,rfl,rfl,trivial⟩ ⟨rfl,rfl,trivial⟩) ⟨Nat.zero_le _,fun j hj=>by omega⟩ (fun _=>⟨rfl,rfl⟩) (fun (k:Nat) G3 hg3 hx3=>W.mk ?_)
   obtain ⟨hk,hx3⟩:=hx3
   dsimp only
   (conv=>whnf)
   repeat' (first | (refine ob ?_ ?_;(first | trivial | omega | (simp only [inR];omega) | exact ble (by rfl) | exact SlR.some ‹_› (by omega));(conv=>whnf)) | (first | (refine ra ‹_› (by rfl) ?_;(conv=>whnf)) | (refine rb ‹_› (by rfl) ?_;(conv=>whnf)) | (refine rc ‹_› (by rfl) ?_;(conv=>whnf)) | (refine rd ‹_› (by rfl) ?_;(conv=>whnf))))
   refine IteP.mk (fun hlk=>W.mk ?_) (fun hge=>W.mk ?_)<;>(conv=>whnf)
   ·have hlk:k < w.text.size:=by omega
    have hbt:badC (byteAt w.text k) = true→badT w.text = true:=fun h=>by
     rw [badT,List.any_eq_true]
     exact ⟨k,List.mem_range.2 hlk,h⟩
    have hbc:badC (byteAt w.text k) = (decide (byteAt w.text k < 33) || decide (126 < byteAt w.text k)):=rfl
    have hi9:=idx9 w.text k hlk
    generalize hce:byteAt w.text k = c at hbt hbc hi9
    repeat' (first | (refine ob ?_ ?_;(first | trivial | omega | (simp only [inR];omega) | exact ble (by rfl) | exact SlR.some ‹_› (by omega));(conv=>whnf)) | (first | (refine ra ‹_› (by rfl) ?_;(conv=>whnf)) | (refine rb ‹_› (by rfl) ?_;(conv=>whnf)) | (refine rc ‹_› (by rfl) ?_;(conv=>whnf)) | (refine rd ‹_› (by rfl) ?_;(conv=>whnf))))
    refine PurP.of _ hi9 (W.mk ?_)
    (conv=>whnf)
    refine IteP.mk (fun h5=>W.mk ?_) (fun h5=>W.mk ?_)<;>(conv=>whnf)
    ·have h5:c < 33:=h5
     refine FinP.mk ?_
     rw [bad (by rw [hbw];exact hbt (by rw [hbc,decide_eq_true h5];rfl))];rfl
    ·have h5:¬ c < 33:=h5
     repeat' (first | (refine ob ?_ ?_;(first | trivial | omega | (simp only [inR];omega) | exact ble (by rfl) | exact SlR.some ‹_› (by omega));(conv=>whnf)) | (first | (refine ra ‹_› (by rfl) ?_;(conv=>whnf)) | (refine rb ‹_› (by rfl) ?_;(conv=>whnf)) | (refine rc ‹_› (by rfl) ?_;(conv=>whnf)) | (refine rd ‹_› (by rfl) ?_;(conv=>whnf))))
     refine PurP.of _ hi9 (W.mk ?_)
     (conv=>whnf)
     refine IteP.mk (fun h6=>W.mk ?_) (fun h6=>W.mk ?_)<;>(conv=>whnf)
     ·have h6:c > 126:=h6
      refine FinP.mk ?_
      rw [bad (by rw [hbw];exact hbt (by rw [hbc,decide_eq_true (show 126 < c from h6),Bool.or_true]))];rfl
     ·have h6:¬ c > 126:=h6
      repeat' (first | (refine ob ?_ ?_;(first | trivial | omega | (simp only [inR];omega) | exact ble (by rfl) | exact SlR.some ‹_› (by omega));(conv=>whnf)) | (first | (refine ra ‹_› (by rfl) ?_;(conv=>whnf)) | (refine rb ‹_› (by rfl) ?_;(conv=>whnf)) | (refine rc ‹_› (by rfl) ?_;(conv=>whnf)) | (refine rd ‹_› (by rfl) ?_;(conv=>whnf))))
      refine RoundP.of (k + 1) (HeadP.of [] ⟨rfl,rfl,rfl,rfl,trivial⟩ ⟨rfl,rfl,trivial⟩) ⟨by omega,fun j hj=>?_⟩ (by simp only;omega)
      rcases Nat.lt_succ_iff_lt_or_eq.1 hj with h | rfl
      ·exact hx3 j h
      ·show badC (byteAt w.text j) = false
       rw [hce,hbc,decide_eq_false h5,decide_eq_false (show ¬ 126 < c from h6)];rfl
   ·have hkz:k = w.text.size:=by omega
    have hbt:badT w.text = false:=by
     rw [badT,List.any_eq_false]
     intro j hj
     rw [hx3 j (by have:=List.mem_range.1 hj;omega)];simp
    rw [hbw,hbt,Bool.false_or] at hx
    repeat' (first | (refine ob ?_ ?_;(first | trivial | omega | (simp only [inR];omega) | exact ble (by rfl) | exact SlR.some ‹_› (by omega));(conv=>whnf)) | (first | (refine ra ‹_› (by rfl) ?_;(conv=>whnf)) | (refine rb ‹_› (by rfl) ?_;(conv=>whnf)) | (refine rc ‹_› (by rfl) ?_;(conv=>whnf)) | (refine rd ‹_› (by rfl) ?_;(conv=>whnf))))
    exact RoundP.of (i2 + 1) (HeadP.of [] ⟨rfl,rfl,trivial⟩ ⟨rfl,trivial⟩) ⟨by omega,hx⟩ (by simp only;omega)
  have hie2:i2 = r.words.length:=by omega
  rw [List.drop_of_length_le (by omega)] at hx
  have hx:false = r.words.any badW:=hx
  rw [← hx,Bool.false_or] at hfa
  clear hx
  refine LoopP.of { α:=Nat,fr:=fun i=>[(1, .c (.ptr 0 0)),(7, .v (I i))],H:=fun _=>[(0, .cells .anon [.val (.slice wa wn wc), .val (.slice oa on oc), .val (I r.cols)] 25)],ok:=fun i _=>i≤on∧(r.orders.drop i).any (badO r.words.length) = r.orders.any (badO r.words.length),m:=fun i=>on - i }
   0 (HeadP.of [] ⟨rfl,rfl,trivial⟩ ⟨rfl,trivial⟩) ⟨Nat.zero_le _,rfl⟩ (fun _=>⟨rfl,rfl⟩) (fun (i3:Nat) G4 hg4 hx=>W.mk ?_)
  obtain ⟨hi3,hx⟩:=hx
  dsimp only
  (conv=>whnf)
  refine IteP.mk (fun hlt=>W.mk ?_) (fun hge=>W.mk ?_)<;>(conv=>whnf)
  ·have hlt:i3 < r.orders.length:=by omega
   have hc:=(SlR.grow (G:=G) (G':=G4) (fun _ _ h=>h) ho1 (((hg1.trans hg2).trans hg4))).el hlt
   rw [List.drop_eq_getElem_cons hlt,List.any_cons] at hx
   generalize r.orders[i3] = o at hc hx
   obtain ⟨f,t,k,y⟩:=o
   have bad:badO r.words.length ⟨f,t,k,y⟩ = true→faultR r = 1:=fun h=>by rw [hfa, ← hx,h];rfl
   have hbo:badO r.words.length ⟨f,t,k,y⟩ = (!inF t 1 r.words.length || !inF f 0 (t - 1) || !inF k 0 7 || !inF y 0 9999):=rfl
   repeat' (first | (refine ob ?_ ?_;(first | trivial | omega | (simp only [inR];omega) | exact ble (by rfl) | exact SlR.some ‹_› (by omega));(conv=>whnf)) | (first | (refine ra ‹_› (by rfl) ?_;(conv=>whnf)) | (refine rb ‹_› (by rfl) ?_;(conv=>whnf)) | (refine rc ‹_› (by rfl) ?_;(conv=>whnf)) | (refine rd ‹_› (by rfl) ?_;(conv=>whnf))))
   refine OblP.mk ⟨_,_,_,rfl⟩ (W.mk ?_)
   (conv=>whnf)
   refine ForkP.mk (fun hq=>W.mk ?_) (fun hq=>W.mk ?_)<;>(conv=>whnf)
   rotate_left
   ·have hq:inF t 1 (wn:Int) = false:=hq
    refine FinP.mk ?_
    rw [bad (by rw [hbo,hwn,hq];rfl)];rfl
   have hq:inF t 1 (wn:Int) = true:=hq
   have hqt:1≤t∧t≤(wn:Int):=by simpa [inF] using hq
   repeat' (first | (refine ob ?_ ?_;(first | trivial | omega | (simp only [inR];omega) | exact ble (by rfl) | exact SlR.some ‹_› (by omega));(conv=>whnf)) | (first | (refine ra ‹_› (by rfl) ?_;(conv=>whnf)) | (refine rb ‹_› (by rfl) ?_;(conv=>whnf)) | (refine rc ‹_› (by rfl) ?_;(conv=>whnf)) | (refine rd ‹_› (by rfl) ?_;(conv=>whnf))))
   refine OblP.mk ⟨_,_,_,rfl⟩ (W.mk ?_)
   (conv=>whnf)
   refine ForkP.mk (fun hq2=>W.mk ?_) (fun hq2=>W.mk ?_)<;>(conv=>whnf)
   rotate_left
   ·have hq2:inF f 0 (t - 1) = false:=hq2
    refine FinP.mk ?_
    rw [bad (by rw [hbo,hwn,hq,hq2];rfl)];rfl
   have hq2:inF f 0 (t - 1) = true:=hq2
   repeat' (first | (refine ob ?_ ?_;(first | trivial | omega | (simp only [inR];omega) | exact ble (by rfl) | exact SlR.some ‹_› (by omega));(conv=>whnf)) | (first | (refine ra ‹_› (by rfl) ?_;(conv=>whnf)) | (refine rb ‹_› (by rfl) ?_;(conv=>whnf)) | (refine rc ‹_› (by rfl) ?_;(conv=>whnf)) | (refine rd ‹_› (by rfl) ?_;(conv=>whnf))))
   refine OblP.mk ⟨_,_,_,rfl⟩ (W.mk ?_)
   (conv=>whnf)
   refine ForkP.mk (fun hq3=>W.mk ?_) (fun hq3=>W.mk ?_)<;>(conv=>whnf)
   rotate_left
   ·have hq3:inF k 0 7 = false:=hq3
    refine FinP.mk ?_
    rw [bad (by rw [hbo,hwn,hq,hq2,hq3];rfl)];rfl
   have hq3:inF k 0 7 = true:=hq3
   repeat' (first | (refine ob ?_ ?_;(first | trivial | omega | (simp only [inR];omega) | exact ble (by rfl) | exact SlR.some ‹_› (by omega));(conv=>whnf)) | (first | (refine ra ‹_› (by rfl) ?_;(conv=>whnf)) | (refine rb ‹_› (by rfl) ?_;(conv=>whnf)) | (refine rc ‹_› (by rfl) ?_;(conv=>whnf)) | (refine rd ‹_› (by rfl) ?_;(conv=>whnf))))
   refine OblP.mk ⟨_,_,_,rfl⟩ (W.mk ?_)
   (conv=>whnf)
   refine ForkP.mk (fun hq4=>W.mk ?_) (fun hq4=>W.mk ?_)<;>(conv=>whnf)
   rotate_left
   ·have hq4:inF y 0 9999 = false:=hq4
    refine FinP.mk ?_
    rw [bad (by rw [hbo,hwn,hq,hq2,hq3,hq4];rfl)];rfl
   have hq4:inF y 0 9999 = true:=hq4
   rw [hbo,hwn,hq,hq2,hq3,hq4] at hx
   repeat' (first | (refine ob ?_ ?_;(first | trivial | omega | (simp only [inR];omega) | exact ble (by rfl) | exact SlR.some ‹_› (by omega));(conv=>whnf)) | (first | (refine ra ‹_› (by rfl) ?_;(conv=>whnf)) | (refine rb ‹_› (by rfl) ?_;(conv=>whnf)) | (refine rc ‹_› (by rfl) ?_;(conv=>whnf)) | (refine rd ‹_› (by rfl) ?_;(conv=>whnf))))
   refine RoundP.of (i3 + 1) (HeadP.of [] ⟨rfl,rfl,trivial⟩ ⟨rfl,trivial⟩) ⟨by omega, ?_⟩ (by simp only;omega)
   rw [hwn]
   exact hx
  have hie3:i3 = r.orders.length:=by omega
  rw [List.drop_of_length_le (by omega)] at hx
  have hx:false = r.orders.any (badO r.words.length):=hx
  rw [← hx,Bool.false_or] at hfa
  repeat' (first | (refine ob ?_ ?_;(first | trivial | omega | (simp only [inR];omega) | exact ble (by rfl) | exact SlR.some ‹_› (by omega));(conv=>whnf)) | (first | (refine ra ‹_› (by rfl) ?_;(conv=>whnf)) | (refine rb ‹_› (by rfl) ?_;(conv=>whnf)) | (refine rc ‹_› (by rfl) ?_;(conv=>whnf)) | (refine rd ‹_› (by rfl) ?_;(conv=>whnf))))
  refine OblP.mk ⟨_,_,_,rfl⟩ (W.mk ?_)
  (conv=>whnf)
  refine ForkP.mk (fun hq=>W.mk ?_) (fun hq=>W.mk ?_)<;>(conv=>whnf)
  ·have hq:inF r.cols 1 20 = true:=hq
   refine FinP.mk ?_
   rw [hfa,hq];rfl
  ·have hq:inF r.cols 1 20 = false:=hq
   refine FinP.mk ?_
   rw [hfa,hq];rfl
end Go.Proofs.Ytpcpjmplgladmaa

namespace Go.Proofs.Ytpcpjmplgladmaa
open Go.Pal
set_option maxRecDepth 100000
def selK (r:Rp) (s:Nat):Nat→List Od
 | 0=>[]
 | i + 1=>if s.testBit i then selK r s i++[r.orders.getD i ⟨0,0,0,0⟩] else selK r s i
def sel (r:Rp) (s:Nat):Rp:=⟨r.words,selK r s r.orders.length,0⟩
def sameAt (r:Rp) (x:Rx) (s i:Nat):Bool:=!hidF r x i || hidF (sel r s) x i
def sameF (r:Rp) (x:Rx) (s:Nat):Bool:=(List.range r.words.length).all (sameAt r x s)
end Go.Proofs.Ytpcpjmplgladmaa
