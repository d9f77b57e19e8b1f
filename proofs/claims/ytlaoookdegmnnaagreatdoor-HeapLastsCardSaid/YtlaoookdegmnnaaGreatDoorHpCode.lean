/- The functions of the seat as the abstract machine's code: no program in sight. -/
import Derived.Test.YtlaoookdegmnnaaGreatDoorHpCodeA
set_option maxRecDepth 100000
namespace Go.Proofs.YtlaoookdegmnnaaGreatDoor
open Go.AM
def a164 : AFn :=
 (.mk (.seq (.region [(oG 2 (.mv (.const .nilIface)))]) (.seq (.region [oM 8 0,oN 9 8,oF 10 0 9,oL 11 10,(oG 12 (.call 84 [oT 11])),oM 3 12]) (.seq (.seq (.region [oM 13 3,(oG 14 (.len (oT 13))),(oG 15 (.bin .sub (oT 14) (oC
 1))),oM 4 15]) (.block 0 (.loop (.seq (.seq (.region [oM 16 4,(oG 17 (.bin .geq (oT 16) (oC 0)))]) (.cond (oT 17) .skip (.exit 0))) (.seq (.block 1 (.seq (.region [oM 21 0,oM 22 3,oM 23 4,(oG 24 (.atSlice 1 (oT 22) (oT 23))),oL 25
 24,(oG 26 (.call 267 [oT 21,oT 25])),oM 20 26,oX 27 20 0,oX 28 20 1,oM 5 27,oM 6 28]) (.seq (.seq (.region [oM 29 5,(oG 30 (.len (oT 29))),(oG 31 (.bin .gtr (oT 30) (oC 0)))]) (.cond (oT 31) (.seq (.region [oM 32 0,oM 33 3,oM 34
 4,(oG 35 (.atSlice 1 (oT 33) (oT 34))),oL 36 35,oN 37 32,oF 38 2 37,oS 38 36]) (.seq (.seq (.draws [(oM 39 6,0,11),(oM 40 0,0,9),(oN 41 40,0,9),(oF 42 0 41,0,9),(oL 43 42,0,9),(oM 44 3,0,9),(oM 45 4,0,9),((oG 46 (.atSlice 1 (oT
 44) (oT 45))),0,9),(oL 47 46,0,9),((oG 48 (.call 268 [oT 43,oT 47])),0,11),((oG 49 (.bin .lss (oT 39) (oT 48))),10,11)]) (.cond (oT 49) (.seq (.draws [(oM 50 3,0,14),(oM 51 4,0,14),((oG 52 (.atSlice 1 (oT 50) (oT 51))),0,14),(oL
 53 52,0,14),(oM 54 0,0,13),(oN 55 54,0,13),(oF 56 0 55,0,13),(oL 57 56,0,13),(oM 58 3,0,13),(oM 59 4,0,13),((oG 60 (.atSlice 1 (oT 58) (oT 59))),0,13),(oL 61 60,0,13),(oM 62 6,0,13),((oG 63 (.call 269 [oT 57,oT 61,oT
 62])),0,14),((oG 64 (.call 158 [oT 53,oT 63])),14,16),(oM 2 64,15,16)]) .ret) .skip)) (.seq (.region [(oG 2 (.mv (.const .nilIface)))]) .ret))) .skip)) (.seq (.draws [(oM 65 3,0,13),(oM 66 4,0,13),((oG 67 (.atSlice 1 (oT 65) (oT
 66))),0,13),(oL 68 67,0,13),(oM 69 0,0,12),(oN 70 69,0,12),(oF 71 0 70,0,12),(oL 72 71,0,12),(oM 73 3,0,12),(oM 74 4,0,12),((oG 75 (.atSlice 1 (oT 73) (oT 74))),0,12),(oL 76 75,0,12),((oG 77 (.call 162 [oT 72,oT 76])),0,13),((oG
 78 (.call 158 [oT 68,oT 77])),13,15),(oM 7 78,14,15)]) (.seq (.region [oM 79 7,(oG 80 (.eq (.iface true) true (oT 79) (.const .nilIface)))]) (.cond (oT 80) (.seq (.region [oM 81 7,oM 2 81]) .ret) .skip)))))) (.region [oM 18 4,(oG
 19 (.bin .sub (oT 18) (oC 1))),oM 4 19])))))) (.seq (.region [(oG 2 (.mv (.const .nilIface)))]) .ret)))) 82 [.tmp 2])
def a165 : AFn :=
 (.mk (.seq (.region [(oG 2 (.mv (.const .nilIface)))]) (.seq (.region [oM 16 0,oN 17 16,oF 18 0 17,oL 19 18,(oG 20 (.call 84 [oT 19])),oM 3 20]) (.seq (.region [(oG 4 (.mv (oC 0)))]) (.seq (.seq (.region [oM 21 3,(oG 22 (.len (oT
 21))),(oG 23 (.mv (oC 0)))]) (.block 0 (.loop (.seq (.region [(oG 24 (.bin .lss (oT 23) (oT 22)))]) (.seq (.cond (oT 24) .skip (.exit 0)) (.seq (.block 1 (.seq (.region [oM 25 23,(oG 26 (.atSlice 1 (oT 21) (oT 23))),oL 27 26,oM 5
 25,oM 6 27]) (.seq (.region [oM 29 0,oM 30 6,(oG 31 (.call 267 [oT 29,oT 30])),oM 28 31,oX 32 28 0,oX 33 28 1,oM 7 32,oM 8 33]) (.seq (.region [oM 34 7,(oG 35 (.call 270 [oT 34]))]) (.cond (oT 35) (.region [oM 36 5,oM 4 36])
 .skip))))) (.region [(oG 37 (.bin .add (oT 23) (oC 1))),oM 23 37]))))))) (.seq (.seq (.region [oM 38 3,(oG 39 (.len (oT 38))),(oG 40 (.mv (oC 0)))]) (.block 2 (.loop (.seq (.region [(oG 41 (.bin .lss (oT 40) (oT 39)))]) (.seq
 (.cond (oT 41) .skip (.exit 2)) (.seq (.block 3 (.seq (.region [oM 42 40,(oG 43 (.atSlice 1 (oT 38) (oT 40))),oL 44 43,oM 9 42,oM 10 44]) (.seq (.seq (.region [oM 45 9,oM 46 4,(oG 47 (.bin .lss (oT 45) (oT 46)))]) (.cond (oT 47)
 (.seq (.seq (.region [oM 48 10,oM 49 0,oN 50 49,oF 51 0 50,oL 52 51,oM 53 10,(oG 54 (.call 162 [oT 52,oT 53])),(oG 55 (.call 158 [oT 48,oT 54])),oM 11 55]) (.seq (.region [oM 56 11,(oG 57 (.eq (.iface true) true (oT 56) (.const
 .nilIface)))]) (.cond (oT 57) (.seq (.region [oM 58 11,oM 2 58]) .ret) .skip))) (.exit 3)) .skip)) (.seq (.region [oM 60 0,oM 61 10,(oG 62 (.call 267 [oT 60,oT 61])),oM 59 62,oX 63 59 0,oX 64 59 1,oM 12 63,oM 13 64]) (.seq (.seq
 (.region [oM 65 9,oM 66 4,(oG 67 (.bin .eql (oT 65) (oT 66))),oM 68 67,(.mk (some 69) (.mv (oT 12)) (some (68,true))),(.mk (some 70) (.call 270 [oT 69]) (some (68,true))),(oG 71 (.pick (oT 68) (oT 70) (.const (.bool false))))])
 (.cond (oT 71) (.region [oM 72 0,oM 73 12,(oG 74 (.atSlice 1 (oT 73) (oC 0))),oL 75 74,(oG 76 (.cutSlice 1 (oT 75) (some (oC 1)) none none)),oN 77 72,oF 78 3 77,oS 78 76]) .skip)) (.seq (.region [oM 79 12,(oG 80 (.len (oT
 79))),(oG 81 (.mv (oC 0)))]) (.block 4 (.loop (.seq (.region [(oG 82 (.bin .lss (oT 81) (oT 80)))]) (.seq (.cond (oT 82) .skip (.exit 4)) (.seq (.block 5 (.seq (.region [(oG 83 (.atSlice 1 (oT 79) (oT 81))),oL 84 83,oM 15 84])
 (.seq (.region [oM 85 15,(oG 86 (.len (oT 85))),(oG 87 (.bin .gtr (oT 86) (oC 0))),oM 88 87,(.mk (some 89) (.mv (oT 15)) (some (88,true))),(.mk (some 90) (.atSlice 1 (oT 89) (oC 0)) (some (88,true))),(.mk (some 91) (.load 1 false
 (oT 90)) (some (88,true))),(.mk (some 92) (.bin .eql (oT 91) (.const (.int .u8 0))) (some (88,true))),(oG 93 (.pick (oT 88) (oT 92) (.const (.bool false))))]) (.cond (oT 93) (.draws [(oM 94 0,0,11),(oM 95 0,0,8),(oN 96 95,0,8),(oF
 97 4 96,0,8),(oL 98 97,0,8),(oM 99 15,0,7),((oG 100 (.cutSlice 1 (oT 99) (some (oC 1)) none none)),0,7),((oG 101 (.buildSlice 1 1 [(.slice none 0 0 0 0)] [(0,(1,(oT 100)))])),0,8),((oG 102 (.append false 1 24 (oT 98) (oT
 101))),8,11),(oN 103 94,9,11),(oF 104 4 103,9,11),((oS 104 102),9,12)]) .skip)))) (.region [(oG 105 (.bin .add (oT 81) (oC 1))),oM 81 105])))))))))))) (.region [(oG 106 (.bin .add (oT 40) (oC 1))),oM 40 106]))))))) (.seq (.region
 [(oG 2 (.mv (.const .nilIface)))]) .ret)))))) 107 [.tmp 2])
def a166 : AFn :=
 (.mk (.seq (.region [(oG 2 (.mv (.const (.pointer none))))]) (.seq (.region [oM 3 0,(oG 4 (.build [(.slice none 0 0 0 0),(.int .i64 0),.nilIface] [(0,(1,(oT 3)))])),(oG 5 (.box (oT 4))),oM 2 5]) .ret)) 6 [.tmp 2])
def a167 : AFn :=
 (.mk (.seq (.region [(oG 2 (.mv (.const (.int .u64 0))))]) (.seq (.seq (.region [oM 6 0,(oG 7 (.call 271 [oT 6]))]) (.cond (oT 7) (.seq (.region [(oG 2 (.mv (.const (.int .u64 0))))]) .ret) .skip)) (.seq (.region [oM 8 0,oN 9 8,oF
 10 1 9,oL 11 10,oM 3 11]) (.seq (.region [oM 13 0,(oG 14 (.call 272 [oT 13])),oM 12 14,oX 15 12 0,oX 16 12 1,oM 4 15,oM 5 16]) (.seq (.seq (.region [oM 17 5,(oG 18 (.un .not (oT 17)))]) (.cond (oT 18) (.region [oM 19 0,oM 20 3,(oG
 21 (.call 273 [oT 19,oT 20,oC 6]))]) .skip)) (.seq (.region [oM 22 4,oM 2 22]) .ret)))))) 23 [.tmp 2])
def a168 : AFn :=
 (.mk (.seq (.region [(oG 2 (.mv (oC 0)))]) (.seq (.seq (.region [oM 3 0,(oG 4 (.eq .ptr false (oT 3) (.const (.pointer none))))]) (.cond (oT 4) (.seq (.region [(oG 2 (.mv (oC 1)))]) .ret) .skip)) (.seq (.region [oM 5 0,oN 6 5,oF 7
 2 6,oL 8 7,(oG 9 (.call 67 [oT 8])),oM 2 9]) .ret))) 10 [.tmp 2])
def a169 : AFn :=
 (.mk (.seq (.region [(oG 2 (.mv (.const (.slice none 0 0)))),(oG 3 (.mv (oC 0)))]) (.seq (.region [oM 9 0,(oG 10 (.call 166 [oT 9])),oM 4 10]) (.seq (.region [oM 11 4,(oG 12 (.call 167 [oT 11])),oM 5 12]) (.seq (.seq (.region [oM
 13 5,(oG 14 (.bin .gtr (oT 13) (.const (.int .u64 4096))))]) (.cond (oT 14) (.seq (.region [(oG 2 (.mv (.const (.slice none 0 0)))),(oG 3 (.mv (oC 6)))]) .ret) .skip)) (.seq (.region [(oG 6 (.mv (.const (.slice none 0 0))))])
 (.seq (.seq (.region [(oG 7 (.mv (.const (.int .u64 0))))]) (.block 0 (.loop (.seq (.seq (.region [oM 15 7,oM 16 5,(oG 17 (.bin .lss (oT 15) (oT 16))),oM 18 17,(.mk (some 19) (.mv (oT 4)) (some (18,true))),(.mk (some 20) (.call
 168 [oT 19]) (some (18,true))),(.mk (some 21) (.bin .eql (oT 20) (oC 0)) (some (18,true))),(oG 22 (.pick (oT 18) (oT 21) (.const (.bool false))))]) (.cond (oT 22) .skip (.exit 0))) (.seq (.block 1 (.seq (.region [oM 25 4,(oG 26
 (.call 274 [oT 25,oC 16])),oM 27 4,(oG 28 (.call 275 [oT 27])),(oG 29 (.build [(.str []),(.int .i64 0),(.bool false)] [(0,(1,(oT 26))),(2,(1,(oT 28)))])),(oG 8 (.alloc [(.str []),(.int .i64 0),(.bool false)])),(oE (.store 3 (oT 8)
 (oT 29)))]) (.seq (.seq (.region [oF 30 2 8,oL 31 30]) (.cond (oT 31) (.region [oM 32 4,(oG 33 (.call 276 [oT 32])),oF 34 1 8,oS 34 33]) .skip)) (.region [oM 35 6,(oG 36 (.load 3 true (oT 8))),(oG 37 (.buildSlice 1 3 [(.str
 []),(.int .i64 0),(.bool false)] [(0,(3,(oT 36)))])),(oG 38 (.append false 3 32 (oT 35) (oT 37))),oM 6 38])))) (.region [oM 23 7,(oG 24 (.bin .add (oT 23) (.const (.int .u64 1)))),oM 7 24])))))) (.seq (.seq (.region [oM 39 4,(oG
 40 (.call 277 [oT 39])),(oG 41 (.bin .neq (oT 40) (oC 0)))]) (.cond (oT 41) (.seq (.region [(oG 2 (.mv (.const (.slice none 0 0)))),(oG 3 (.mv (oC 6)))]) .ret) .skip)) (.seq (.region [oM 42 6,oM 2 42,(oG 3 (.mv (oC 0)))])
 .ret)))))))) 43 [.tmp 2,.tmp 3])
def a170 : AFn :=
 (.mk (.seq (.region [(oG 2 (.mv (oC 0)))]) (.seq (.seq (.region [oM 3 0,(oG 4 (.eq .ptr false (oT 3) (.const (.pointer none))))]) (.cond (oT 4) (.seq (.region [(oG 2 (.mv (oC 0)))]) .ret) .skip)) (.seq (.draws [(oM 5 0,0,11),(oN 6
 5,0,11),(oF 7 0 6,0,11),(oL 8 7,0,11),((oG 9 (.len (oT 8))),0,11),(oM 10 0,0,11),(oN 11 10,0,11),(oF 12 1 11,0,11),(oL 13 12,0,11),((oG 14 (.bin .sub (oT 9) (oT 13))),0,11),(oM 2 14,0,11)]) .ret))) 15 [.tmp 2])
def a171 : AFn :=
 (.mk (.seq (.region [(oG 4 (.mv (.const (.bool false))))]) (.seq (.region [oM 6 0,(oG 7 (.call 27 [oT 6])),(oG 8 (.call 108 [oT 7])),oM 5 8]) (.seq (.region [oM 9 5,oM 10 1,(oG 11 (.call 152 [oT 9,oT 10])),(oG 12 (.bin .eql (oT
 11) (oC 0))),oM 4 12]) .ret))) 13 [.tmp 4])
def a172 : AFn :=
 (.mk (.seq (.region [oM 3 0,(oG 4 (.len (oT 3))),oM 2 4]) (.region [oM 5 0,oM 6 2,oM 7 2,(oG 8 (.conv .u64 (oT 7))),(oG 9 (.call 223 [oT 8])),(oG 10 (.call 278 [oT 5,oC 0,oT 6,oT 9]))])) 11 [])
def a198 : AFn :=
 (.mk (.seq (.region [(oG 6 (.mv (.const .nilIface)))]) (.seq (.region [oM 10 0,oM 11 1,(oG 12 (.call 297 [oT 10,oT 11])),oM 9 12,oX 13 9 0,oX 14 9 1,oM 7 13,oM 8 14]) (.seq (.block 0 (.seq (.region [oM 29 8,oM 28 29]) (.cond (oT
 28) (.region [oM 30 0,oN 31 30,oF 32 0 31,oL 33 32,oM 34 7,oM 35 2,(oG 36 (.atSlice 2 (oT 33) (oT 34))),oF 37 1 36,oS 37 35]) (.seq (.region [oM 39 0,oN 40 39,oF 41 0 40,oL 42 41,(oG 43 (.len (oT 42))),(oG 44 (.bin .geq (oT 43)
 (oC 256))),oM 38 44]) (.cond (oT 38) (.seq (.draws [(oM 45 0,0,7),(oN 46 45,0,7),(oF 47 0 46,0,7),(oL 48 47,0,7),((oG 49 (.len (oT 48))),0,7),((oG 50 (.bin .add (oT 49) (oC 1))),0,7),((oG 51 (.call 90 [oC 5])),0,7),((oG 52 (.call
 150 [oC 256,oT 50,oT 51])),7,9),(oM 6 52,8,9)]) .ret) (.region [oM 15 0,oM 16 0,oN 17 16,oF 18 0 17,oL 19 18,oM 20 7,oM 21 1,oM 22 2,(oG 23 (.build [(.str []),(.int .i64 0)] [(0,(1,(oT 21))),(1,(1,(oT 22)))])),(oG 24 (.buildSlice
 1 2 [(.str []),(.int .i64 0)] [(0,(2,(oT 23)))])),(oG 25 (.call 298 [oT 19,oT 20,oT 24])),oN 26 15,oF 27 0 26,oS 27 25])))))) (.seq (.region [(oG 6 (.mv (.const .nilIface)))]) .ret)))) 53 [.tmp 6])
def a199 : AFn :=
 (.mk (.seq (.region [(oG 2 (.mv (.const (.pointer none))))]) (.seq (.seq (.region [oM 3 0,(oG 4 (.eq .ptr false (oT 3) (.const (.pointer none))))]) (.cond (oT 4) (.seq (.region [(oG 2 (.mv (.const (.pointer none))))]) .ret)
 .skip)) (.seq (.region [oM 5 0,oN 6 5,oF 7 0 6,oL 8 7,(oG 9 (.call 202 [oT 8])),(oG 10 (.build [(.slice none 0 0 0 0)] [(0,(1,(oT 9)))])),(oG 11 (.box (oT 10))),oM 2 11]) .ret))) 12 [.tmp 2])
def a202 : AFn :=
 (.mk (.seq (.region [(oG 2 (.mv (.const (.slice none 0 0))))]) (.seq (.seq (.region [oM 3 0,(oG 4 (.eq .nilSlice false (oT 3) (.const (.slice none 0 0))))]) (.cond (oT 4) (.seq (.region [(oG 2 (.mv (.const (.slice none 0 0))))])
 .ret) .skip)) (.seq (.region [(oG 5 (.buildSlice 0 2 [] [])),oM 6 0,(oG 7 (.append false 2 24 (oT 5) (oT 6))),oM 2 7]) .ret))) 8 [.tmp 2])
def a214 : AFn :=
 (.mk (.seq (.region [(oG 2 (.mv (.const (.slice none 0 0))))]) (.seq (.region [oM 3 0,(oG 4 (.lenStr (oT 3))),(oG 5 (.conv .u64 (oT 4))),(oG 6 (.call 120 [oT 5])),oM 7 0,(oG 8 (.append true 1 1 (oT 6) (oT 7))),oM 2 8]) .ret)) 9
 [.tmp 2])
def a215 : AFn :=
 (.mk (.seq (.region [(oG 2 (.mv (.const (.slice none 0 0))))]) (.seq (.seq (.region [oM 3 0]) (.cond (oT 3) (.seq (.region [(oG 4 (.buildSlice 1 1 [(.int .u8 0)] [(0,(1,(.const (.int .u8 1))))])),oM 2 4]) .ret) .skip)) (.seq
 (.region [(oG 5 (.buildSlice 1 1 [(.int .u8 0)] [(0,(1,(.const (.int .u8 0))))])),oM 2 5]) .ret))) 6 [.tmp 2])
def a216 : AFn :=
 (.mk (.seq (.region [(oG 2 (.mv (.const (.slice none 0 0))))]) (.seq (.region [oM 3 0,(oG 4 (.conv .u64 (oT 3))),(oG 5 (.bin .shl (oT 4) (.const (.int .u64 1)))),oM 6 0,(oG 7 (.bin .shr (oT 6) (.const (.int .u64 63)))),(oG 8
 (.conv .u64 (oT 7))),(oG 9 (.bin .xor (oT 5) (oT 8))),(oG 10 (.call 120 [oT 9])),oM 2 10]) .ret)) 11 [.tmp 2])
def a244 : AFn :=
 (.mk (.seq (.region [(oG 2 (.mv (.const (.slice none 0 0)))),(oG 3 (.mv (oC 0)))]) (.seq (.region [(oG 4 (.mv (.const (.slice none 0 0))))]) (.seq (.region [(oG 5 (.mv (oC 0)))]) (.block 0 (.loop (.block 1 (.seq (.region [oM 9
 0,oM 10 5,(oG 11 (.cutSlice 1 (oT 9) (some (oT 10)) none none)),(oG 12 (.call 331 [oT 11])),oM 8 12,oX 13 8 0,oX 14 8 1,oM 6 13,oM 7 14]) (.seq (.seq (.region [oM 15 7,(oG 16 (.bin .eql (oT 15) (oC 0)))]) (.cond (oT 16) (.seq
 (.region [oM 17 4,oM 18 5,oM 2 17,oM 3 18]) .ret) .skip)) (.seq (.region [oM 19 4,oM 20 6,(oG 21 (.buildSlice 1 1 [(.slice none 0 0 0 0)] [(0,(1,(oT 20)))])),(oG 22 (.append false 1 24 (oT 19) (oT 21))),oM 4 22]) (.region [oM 23
 5,oM 24 7,(oG 25 (.bin .add (oT 23) (oT 24))),oM 5 25])))))))))) 26 [.tmp 2,.tmp 3])
def a245 : AFn :=
 (.mk (.seq (.region [(oG 10 (.mv (oC 0)))]) (.seq (.seq (.region [oM 16 2,(oG 17 (.bin .lss (oT 16) (oC 0))),oM 18 17,(.mk (some 19) (.mv (oT 2)) (some (18,false))),(.mk (some 20) (.bin .gtr (oT 19) (oC 1048576)) (some
 (18,false))),(oG 21 (.pick (oT 18) (.const (.bool true)) (oT 20)))]) (.cond (oT 21) (.seq (.region [(oG 10 (.mv (oC 2)))]) .ret) .skip)) (.seq (.seq (.region [oM 22 0,oN 23 22,oF 24 3 23,oL 25 24]) (.cond (oT 25) (.seq (.region
 [(oG 10 (.mv (oC 8)))]) .ret) .skip)) (.seq (.region [oM 26 0,oM 27 2,(oG 28 (.call 332 [oT 26,oT 27])),oM 11 28]) (.seq (.seq (.region [oM 29 11,(oG 30 (.bin .lss (oT 29) (oC 0))),oM 31 30,(.mk (some 32) (.mv (oT 1)) (some
 (31,true))),(.mk (some 33) (.bin .neq (oT 32) (oC 0)) (some (31,true))),(oG 34 (.pick (oT 31) (oT 33) (.const (.bool false))))]) (.cond (oT 34) (.seq (.region [(oG 10 (.mv (oC 3)))]) .ret) .skip)) (.seq (.seq (.region [oM 35 1,(oG
 36 (.bin .eql (oT 35) (oC 0))),oM 37 36,(.mk (some 38) (.mv (oT 4)) (some (37,true))),(.mk (some 39) (.len (oT 38)) (some (37,true))),(.mk (some 40) (.mv (oT 0)) (some (37,true))),(.mk (some 41) (.call 333 [oT 40]) (some
 (37,true))),(.mk (some 42) (.bin .gtr (oT 39) (oT 41)) (some (37,true))),(.mk (some 43) (.mv (oT 42)) (some (37,true))),(.mk (some 44) (.mv (oT 11)) (some (43,false))),(.mk (some 45) (.bin .lss (oT 44) (oC 0)) (some
 (43,false))),(.mk (some 46) (.mv (oT 45)) (some (43,false))),(.mk (some 47) (.mv (oT 0)) (some (46,true))),(.mk (some 48) (.nilCheck (oT 47)) (some (46,true))),(.mk (some 49) (.fieldAddr 1 (oT 48)) (some (46,true))),(.mk (some 50)
 (.load 1 false (oT 49)) (some (46,true))),(.mk (some 51) (.len (oT 50)) (some (46,true))),(.mk (some 52) (.bin .geq (oT 51) (oC 64)) (some (46,true))),(.mk (some 53) (.pick (oT 46) (oT 52) (.const (.bool false))) (some
 (43,false))),(.mk (some 54) (.pick (oT 43) (.const (.bool true)) (oT 53)) (some (37,true))),(oG 55 (.pick (oT 37) (oT 54) (.const (.bool false))))]) (.cond (oT 55) (.seq (.region [(oG 10 (.mv (oC 5)))]) .ret) .skip)) (.seq (.seq
 (.region [oM 56 1,(oG 57 (.bin .eql (oT 56) (oC 2))),oM 58 57,(.mk (some 59) (.mv (oT 3)) (some (58,true))),(.mk (some 60) (.bin .lss (oT 59) (oC 0)) (some (58,true))),(.mk (some 61) (.mv (oT 60)) (some (58,true))),(.mk (some 62)
 (.mv (oT 3)) (some (61,false))),(.mk (some 63) (.mv (oT 0)) (some (61,false))),(.mk (some 64) (.nilCheck (oT 63)) (some (61,false))),(.mk (some 65) (.fieldAddr 1 (oT 64)) (some (61,false))),(.mk (some 66) (.load 1 false (oT 65))
 (some (61,false))),(.mk (some 67) (.mv (oT 11)) (some (61,false))),(.mk (some 68) (.atSlice 3 (oT 66) (oT 67)) (some (61,false))),(.mk (some 69) (.fieldAddr 1 (oT 68)) (some (61,false))),(.mk (some 70) (.load 1 false (oT 69))
 (some (61,false))),(.mk (some 71) (.len (oT 70)) (some (61,false))),(.mk (some 72) (.bin .gtr (oT 62) (oT 71)) (some (61,false))),(.mk (some 73) (.pick (oT 61) (.const (.bool true)) (oT 72)) (some (58,true))),(oG 74 (.pick (oT 58)
 (oT 73) (.const (.bool false))))]) (.cond (oT 74) (.seq (.region [(oG 10 (.mv (oC 2)))]) .ret) .skip)) (.seq (.seq (.region [oM 75 0,(oG 76 (.call 334 [oT 75]))]) (.cond (oT 76) (.seq (.region [(oG 10 (.mv (oC 8)))]) .ret) .skip))
 (.seq (.region [oM 77 2,(oG 78 (.build [(.int .i64 0),(.slice none 0 0 0 0),(.int .i64 0)] [(0,(1,(oT 77)))])),(oG 12 (.alloc [(.int .i64 0),(.slice none 0 0 0 0),(.int .i64 0)])),(oE (.store 3 (oT 12) (oT 78)))]) (.seq (.seq
 (.region [oM 79 11,(oG 80 (.bin .geq (oT 79) (oC 0)))]) (.cond (oT 80) (.region [oM 81 0,oN 82 81,oF 83 1 82,oL 84 83,oM 85 11,(oG 86 (.atSlice 3 (oT 84) (oT 85))),(oG 87 (.load 3 true (oT 86))),(oE (.store 3 (oT 12) (oT 87)))])
 .skip)) (.seq (.seq (.region [oM 88 1]) (.block 0 (.seq (.region [(oG 90 (.bin .eql (oT 88) (oC 0))),oM 89 90]) (.cond (oT 89) (.region [(oG 91 (.buildSlice 0 1 [] [])),oF 92 1 12,oL 93 92,(oG 94 (.append false 1 1 (oT 91) (oT
 93))),oM 95 4,(oG 96 (.append false 1 1 (oT 94) (oT 95))),oF 97 1 12,oS 97 96]) (.seq (.region [(oG 99 (.bin .eql (oT 88) (oC 1))),oM 98 99]) (.cond (oT 98) (.region [oF 100 1 12,oL 101 100,(oG 102 (.len (oT 101))),oF 103 2 12,oS
 103 102]) (.seq (.region [(oG 105 (.bin .eql (oT 88) (oC 2))),oM 104 105]) (.cond (oT 104) (.seq (.region [oF 106 1 12,oL 107 106,oM 108 3,(oG 109 (.cutSlice 1 (oT 107) none (some (oT 108)) none)),oF 110 1 12,oS 110 109]) (.seq
 (.region [oF 111 2 12,oL 112 111,oM 113 3,(oG 114 (.bin .gtr (oT 112) (oT 113)))]) (.cond (oT 114) (.region [oM 115 3,oF 116 2 12,oS 116 115]) .skip))) (.seq (.region [(oG 118 (.bin .eql (oT 88) (oC 3))),oM 117 118]) (.cond (oT
 117) (.seq (.region [(oG 13 (.mv (.const (.slice none 0 0))))]) (.seq (.seq (.region [oM 119 0,oN 120 119,oF 121 1 120,oL 122 121,(oG 123 (.len (oT 122))),(oG 124 (.mv (oC 0)))]) (.block 1 (.loop (.seq (.region [(oG 125 (.bin .lss
 (oT 124) (oT 123)))]) (.seq (.cond (oT 125) .skip (.exit 1)) (.seq (.block 2 (.seq (.region [oM 126 124,(oG 127 (.atSlice 3 (oT 122) (oT 124))),(oG 128 (.load 3 true (oT 127))),(oG 15 (.alloc [(.int .i64 0),(.slice none 0 0 0
 0),(.int .i64 0)])),oM 14 126,(oE (.store 3 (oT 15) (oT 128)))]) (.seq (.region [oM 129 14,oM 130 11,(oG 131 (.bin .neq (oT 129) (oT 130)))]) (.cond (oT 131) (.region [oM 132 13,(oG 133 (.load 3 true (oT 15))),(oG 134 (.buildSlice
 1 3 [(.int .i64 0),(.slice none 0 0 0 0),(.int .i64 0)] [(0,(3,(oT 133)))])),(oG 135 (.append false 3 40 (oT 132) (oT 134))),oM 13 135]) .skip)))) (.region [(oG 136 (.bin .add (oT 124) (oC 1))),oM 124 136]))))))) (.seq (.region
 [oM 137 0,oM 138 13,oN 139 137,oF 140 1 139,oS 140 138]) (.seq (.region [(oG 10 (.mv (oC 0)))]) .ret)))) .skip)))))))))) (.seq (.region [oM 141 0,(oG 142 (.load 3 true (oT 12))),(oG 143 (.call 335 [oT 141,oT 142]))]) (.seq
 (.region [(oG 10 (.mv (oC 0)))]) .ret))))))))))))) 144 [.tmp 10])
def a246 : AFn :=
 (.mk (.seq (.region [(oG 2 (.mv (.const (.bool false))))]) (.seq (.region [oM 6 0,(oG 7 (.call 244 [oT 6])),oM 5 7,oX 8 5 0,oX 9 5 1,oM 3 8,oM 4 9]) (.seq (.region [oM 10 3,(oG 11 (.len (oT 10))),(oG 12 (.bin .gtr (oT 11) (oC
 0))),oM 13 12,(.mk (some 14) (.mv (oT 3)) (some (13,true))),(.mk (some 15) (.atSlice 1 (oT 14) (oC 0)) (some (13,true))),(.mk (some 16) (.load 1 false (oT 15)) (some (13,true))),(.mk (some 17) (.len (oT 16)) (some (13,true))),(.mk
 (some 18) (.bin .gtr (oT 17) (oC 0)) (some (13,true))),(oG 19 (.pick (oT 13) (oT 18) (.const (.bool false)))),oM 20 19,(.mk (some 21) (.mv (oT 3)) (some (20,true))),(.mk (some 22) (.atSlice 1 (oT 21) (oC 0)) (some (20,true))),(.mk
 (some 23) (.load 1 false (oT 22)) (some (20,true))),(.mk (some 24) (.atSlice 1 (oT 23) (oC 0)) (some (20,true))),(.mk (some 25) (.load 1 false (oT 24)) (some (20,true))),(.mk (some 26) (.bin .eql (oT 25) (.const (.int .u8 1)))
 (some (20,true))),(oG 27 (.pick (oT 20) (oT 26) (.const (.bool false)))),oM 2 27]) .ret))) 28 [.tmp 2])
def a247 : AFn :=
 (.mk (.seq (.region [(oG 2 (.mv (.const (.pointer none))))]) (.seq (.region [oM 3 0,(oG 4 (.build [(.slice none 0 0 0 0),(.int .i64 0),(.int .i64 0),(.int .i64 0)] [(0,(1,(oT 3))),(3,(1,(.const (.int .i64 (-1)))))])),(oG 5 (.box
 (oT 4))),oM 2 5]) .ret)) 6 [.tmp 2])
def a248 : AFn :=
 (.mk (.seq (.region [(oG 2 (.mv (.const (.int .u64 0))))]) (.seq (.seq (.region [oM 5 0,oN 6 5,oF 7 2 6,oL 8 7,(oG 9 (.bin .neq (oT 8) (oC 0)))]) (.cond (oT 9) (.seq (.region [(oG 2 (.mv (.const (.int .u64 0))))]) .ret) .skip))
 (.seq (.region [oM 11 0,oM 12 0,oN 13 12,oF 14 1 13,oL 15 14,(oG 16 (.call 336 [oT 11,oT 15])),oM 10 16,oX 17 10 0,oX 18 10 1,oM 3 17,oM 4 18]) (.seq (.seq (.region [oM 19 4,(oG 20 (.bin .eql (oT 19) (oC 0)))]) (.cond (oT 20)
 (.seq (.region [oM 21 0,oM 22 0,oN 23 22,oF 24 1 23,oL 25 24,(oG 26 (.call 337 [oT 21,oT 25,oC 6]))]) (.seq (.region [(oG 2 (.mv (.const (.int .u64 0))))]) .ret)) .skip)) (.seq (.region [oM 27 0,oN 28 27,oF 29 1 28,oL 30 29,oM 31
 4,(oG 32 (.bin .add (oT 30) (oT 31))),oN 33 27,oF 34 1 33,oS 34 32]) (.seq (.region [oM 35 3,oM 2 35]) .ret)))))) 36 [.tmp 2])
def a249 : AFn :=
 (.mk (.seq (.region [(oG 2 (.mv (.const (.slice none 0 0)))),(oG 3 (.mv (.const (.bool false))))]) (.seq (.region [oM 9 0,(oG 10 (.call 247 [oT 9])),oM 4 10]) (.seq (.region [oM 11 4,(oG 12 (.call 248 [oT 11])),oM 5 12]) (.seq
 (.region [(oG 6 (.mv (.const (.slice none 0 0))))]) (.seq (.seq (.region [(oG 7 (.mv (.const (.int .u64 0))))]) (.block 0 (.loop (.seq (.seq (.region [oM 13 7,oM 14 5,(oG 15 (.bin .lss (oT 13) (oT 14))),oM 16 15,(.mk (some 17)
 (.mv (oT 7)) (some (16,true))),(.mk (some 18) (.bin .lss (oT 17) (.const (.int .u64 4097))) (some (16,true))),(oG 19 (.pick (oT 16) (oT 18) (.const (.bool false)))),oM 20 19,(.mk (some 21) (.mv (oT 4)) (some (20,true))),(.mk (some
 22) (.nilCheck (oT 21)) (some (20,true))),(.mk (some 23) (.fieldAddr 2 (oT 22)) (some (20,true))),(.mk (some 24) (.load 1 false (oT 23)) (some (20,true))),(.mk (some 25) (.bin .eql (oT 24) (oC 0)) (some (20,true))),(oG 26 (.pick
 (oT 20) (oT 25) (.const (.bool false))))]) (.cond (oT 26) .skip (.exit 0))) (.seq (.block 1 (.seq (.region [oM 29 4,(oG 30 (.call 338 [oT 29,oC 16])),(oG 31 (.build [(.str []),(.int .i64 0),(.bool false)] [(0,(1,(oT 30)))])),(oG 8
 (.alloc [(.str []),(.int .i64 0),(.bool false)])),(oE (.store 3 (oT 8) (oT 31)))]) (.seq (.region [oM 32 4,(oG 33 (.call 339 [oT 32])),oF 34 2 8,oS 34 33]) (.seq (.seq (.region [oF 35 2 8,oL 36 35]) (.cond (oT 36) (.region [oM 37
 4,(oG 38 (.call 340 [oT 37])),oF 39 1 8,oS 39 38]) .skip)) (.region [oM 40 6,(oG 41 (.load 3 true (oT 8))),(oG 42 (.buildSlice 1 3 [(.str []),(.int .i64 0),(.bool false)] [(0,(3,(oT 41)))])),(oG 43 (.append false 3 32 (oT 40) (oT
 42))),oM 6 43]))))) (.region [oM 27 7,(oG 28 (.bin .add (oT 27) (.const (.int .u64 1)))),oM 7 28])))))) (.seq (.seq (.region [oM 44 4,(oG 45 (.call 341 [oT 44])),(oG 46 (.bin .neq (oT 45) (oC 0))),oM 47 46,(.mk (some 48) (.mv (oT
 5)) (some (47,false))),(.mk (some 49) (.bin .gtr (oT 48) (.const (.int .u64 4096))) (some (47,false))),(oG 50 (.pick (oT 47) (.const (.bool true)) (oT 49)))]) (.cond (oT 50) (.seq (.region [(oG 2 (.mv (.const (.slice none 0
 0)))),(oG 3 (.mv (.const (.bool false))))]) .ret) .skip)) (.seq (.region [oM 51 6,oM 2 51,(oG 3 (.mv (.const (.bool true))))]) .ret))))))) 52 [.tmp 2,.tmp 3])
def a250 : AFn :=
 (.mk (.seq (.region [(oG 4 (.mv (.const (.bool false))))]) (.seq (.region [oM 5 0,oM 6 1,(oG 7 (.call 342 [oT 5,oT 6])),(oG 8 (.bin .geq (oT 7) (oC 0))),oM 4 8]) .ret)) 9 [.tmp 4])
def a251 : AFn :=
 (.mk (.seq (.region [(oG 1 (.box (oT 0))),(oG 2 (.mv (.const (.bool false))))]) (.seq (.region [(oG 3 (.load 3 true (oT 1))),(oG 4 (.call 252 [oT 3])),(oG 5 (.un .not (oT 4))),oM 2 5]) .ret)) 6 [.tmp 2])
def a252 : AFn :=
 (.mk (.seq (.region [(oG 1 (.box (oT 0))),(oG 2 (.mv (.const (.bool false))))]) (.seq (.region [oF 3 0 1,oL 4 3,(oG 5 (.lenStr (oT 4))),(oG 6 (.bin .leq (oT 5) (oC 16))),oM 7 6,(.mk (some 8) (.fieldAddr 2 (oT 1)) (some
 (7,true))),(.mk (some 9) (.load 1 false (oT 8)) (some (7,true))),(.mk (some 10) (.mv (oT 9)) (some (7,true))),(.mk (some 11) (.fieldAddr 1 (oT 1)) (some (10,false))),(.mk (some 12) (.load 1 false (oT 11)) (some (10,false))),(.mk
 (some 13) (.bin .eql (oT 12) (oC 0)) (some (10,false))),(.mk (some 14) (.pick (oT 10) (.const (.bool true)) (oT 13)) (some (7,true))),(oG 15 (.pick (oT 7) (oT 14) (.const (.bool false)))),oM 2 15]) .ret)) 16 [.tmp 2])
def a253 : AFn :=
 (.mk (.seq (.region [oM 7 0,oM 8 1,(oG 9 (.call 297 [oT 7,oT 8])),oM 6 9,oX 10 6 0,oX 11 6 1,oM 4 10,oM 5 11]) (.seq (.region [oM 12 5]) (.cond (oT 12) (.region [oM 13 0,oM 14 0,oN 15 14,oF 16 0 15,oL 17 16,oM 18 4,oM 19 4,(oG 20
 (.bin .add (oT 19) (oC 1))),(oG 21 (.call 343 [oT 17,oT 18,oT 20])),oN 22 13,oF 23 0 22,oS 23 21]) .skip))) 24 [])
def a258 : AFn :=
 (.mk (.seq (.region [(oG 4 (.mv (oC 0))),(oG 5 (.mv (.const .nilIface)))]) (.seq (.seq (.region [oM 7 0,oN 8 7,oF 9 2 8,oL 10 9,(oG 11 (.bin .lss (oT 10) (oC 0)))]) (.cond (oT 11) (.seq (.region [(oG 4 (.mv (oC 0))),(oG 5 (.mv
 (.const .nilIface)))]) .ret) .skip)) (.seq (.draws [(oM 12 0,0,8),(oN 13 12,0,8),(oF 14 0 13,0,8),(oL 15 14,0,8),(oM 16 0,0,8),(oN 17 16,0,8),(oF 18 2 17,0,8),(oL 19 18,0,8),((oG 20 (.call 268 [oT 15,oT 19])),0,10),(oM 6
 20,9,10)]) (.seq (.seq (.region [oM 21 6,(oG 22 (.bin .eql (oT 21) (oC 0))),oM 23 22,(.mk (some 24) (.mv (oT 1)) (some (23,false))),(.mk (some 25) (.mv (oT 0)) (some (23,false))),(.mk (some 26) (.nilCheck (oT 25)) (some
 (23,false))),(.mk (some 27) (.fieldAddr 1 (oT 26)) (some (23,false))),(.mk (some 28) (.load 1 false (oT 27)) (some (23,false))),(.mk (some 29) (.mv (oT 6)) (some (23,false))),(.mk (some 30) (.bin .sub (oT 28) (oT 29)) (some
 (23,false))),(.mk (some 31) (.bin .leq (oT 24) (oT 30)) (some (23,false))),(oG 32 (.pick (oT 23) (.const (.bool true)) (oT 31)))]) (.cond (oT 32) (.seq (.region [oM 33 0,oN 34 33,oF 35 2 34,oL 36 35,oM 4 36,(oG 5 (.mv (.const
 .nilIface)))]) .ret) .skip)) (.seq (.draws [(oM 37 0,0,21),(oN 38 37,0,21),(oF 39 2 38,0,21),(oL 40 39,0,21),((oG 41 (.bin .add (oT 40) (oC 1))),0,21),(oM 42 0,0,18),(oN 43 42,0,18),(oF 44 2 43,0,18),(oL 45 44,0,18),(oM 46
 0,0,17),(oN 47 46,0,17),(oF 48 0 47,0,17),(oL 49 48,0,17),(oM 50 0,0,17),(oN 51 50,0,17),(oF 52 2 51,0,17),(oL 53 52,0,17),((oG 54 (.call 161 [oT 49,oT 53])),0,18),((oG 55 (.call 158 [oT 45,oT 54])),18,21),(oM 4 41,19,21),(oM 5
 55,19,21)]) .ret))))) 56 [.tmp 4,.tmp 5])
def a262 : AFn :=
 (.mk (.seq (.region [(oG 6 (.mv (.const .nilIface)))]) (.seq (.seq (.region [oM 10 0,(oG 11 (.eq .ptr false (oT 10) (.const (.pointer none))))]) (.cond (oT 11) (.seq (.region [(oG 12 (.call 90 [oC 1])),oM 6 12]) .ret) .skip))
 (.seq (.seq (.region [oM 13 1,(oG 14 (.call 348 [oT 13])),oM 7 14]) (.seq (.region [oM 15 7,(oG 16 (.eq (.iface true) true (oT 15) (.const .nilIface)))]) (.cond (oT 16) (.seq (.region [oM 17 7,oM 6 17]) .ret) .skip))) (.seq (.seq
 (.region [oM 18 0,oN 19 18,oF 20 3 19,oL 21 20]) (.cond (oT 21) (.seq (.region [(oG 22 (.call 90 [oC 8])),oM 6 22]) .ret) .skip)) (.seq (.seq (.region [oM 24 0,oN 25 24,oF 26 1 25,oL 27 26,oM 28 1,(oG 29 (.lookup (.int .i64) (.agg
 [(.slice none 0 0 0 0),(.int .i64 0)]) true (oT 27) (oT 28))),oM 23 29,oX 30 23 0,oX 31 23 1,(oG 8 (.alloc [(.slice none 0 0 0 0),(.int .i64 0)])),(oE (.store 2 (oT 8) (oT 30))),oM 9 31]) (.seq (.region [oM 32 9,(oG 33 (.un .not
 (oT 32))),oM 34 33,(.mk (some 35) (.mv (oT 2)) (some (34,true))),(.mk (some 36) (.un .not (oT 35)) (some (34,true))),(oG 37 (.pick (oT 34) (oT 36) (.const (.bool false))))]) (.cond (oT 37) (.seq (.region [oM 38 1,(oG 39 (.call 90
 [oC 3])),(oG 40 (.call 82 [oT 38,oT 39])),oM 6 40]) .ret) .skip))) (.seq (.region [(oG 6 (.mv (.const .nilIface)))]) .ret)))))) 41 [.tmp 6])
def a263 : AFn :=
 (.mk (.seq (.region [(oG 6 (.mv (.const .nilIface)))]) (.seq (.region [oM 12 0,(oG 13 (.call 349 [oT 12])),oM 7 13]) (.seq (.seq (.region [oM 14 2,(oG 15 (.len (oT 14))),(oG 16 (.mv (oC 0)))]) (.block 0 (.loop (.seq (.region [(oG
 17 (.bin .lss (oT 16) (oT 15)))]) (.seq (.cond (oT 17) .skip (.exit 0)) (.seq (.block 1 (.seq (.region [(oG 18 (.atSlice 1 (oT 14) (oT 16))),oL 19 18,oM 9 19]) (.seq (.seq (.region [oM 20 9,(oG 21 (.len (oT 20))),oM 22 7,(oG 23
 (.bin .gtr (oT 21) (oT 22)))]) (.cond (oT 23) (.seq (.draws [(oM 24 0,0,7),(oN 25 24,0,7),(oF 26 0 25,0,7),(oL 27 26,0,7),(oM 28 9,0,7),((oG 29 (.len (oT 28))),0,7),((oG 30 (.call 90 [oC 5])),0,7),((oG 31 (.call 150 [oT 27,oT
 29,oT 30])),7,9),(oM 6 31,8,9)]) .ret) .skip)) (.region [oM 32 7,oM 33 9,(oG 34 (.len (oT 33))),(oG 35 (.bin .sub (oT 32) (oT 34))),oM 7 35])))) (.region [(oG 36 (.bin .add (oT 16) (oC 1))),oM 16 36]))))))) (.seq (.seq (.region
 [oM 38 0,oN 39 38,oF 40 1 39,oL 41 40,oM 42 1,(oG 43 (.lookup (.int .i64) (.agg [(.slice none 0 0 0 0),(.int .i64 0)]) true (oT 41) (oT 42))),oM 37 43,oX 44 37 0,oX 45 37 1,(oG 10 (.alloc [(.slice none 0 0 0 0),(.int .i64
 0)])),(oE (.store 2 (oT 10) (oT 44))),oM 11 45]) (.seq (.region [oM 46 11,(oG 47 (.un .not (oT 46))),oM 48 47,(.mk (some 49) (.mv (oT 0)) (some (48,true))),(.mk (some 50) (.nilCheck (oT 49)) (some (48,true))),(.mk (some 51)
 (.fieldAddr 1 (oT 50)) (some (48,true))),(.mk (some 52) (.load 1 false (oT 51)) (some (48,true))),(.mk (some 53) (.lenMap (oT 52)) (some (48,true))),(.mk (some 54) (.bin .geq (oT 53) (oC 64)) (some (48,true))),(oG 55 (.pick (oT
 48) (oT 54) (.const (.bool false))))]) (.cond (oT 55) (.seq (.region [oM 56 1,(oG 57 (.call 90 [oC 5])),(oG 58 (.call 150 [oC 64,oT 56,oT 57])),oM 6 58]) .ret) .skip))) (.seq (.region [(oG 6 (.mv (.const .nilIface)))]) .ret)))))
 59 [.tmp 6])
def a264 : AFn :=
 (.mk (.seq (.region [(oG 5 (.box (oT 2))),(oG 6 (.mv (oC 0)))]) (.seq (.region [oM 8 0,(oG 9 (.call 266 [oT 8])),oM 7 9]) (.seq (.seq (.region [oM 10 7,(oG 11 (.eq (.iface true) false (oT 10) (.const .nilIface)))]) (.cond (oT 11)
 (.draws [(oM 12 0,0,6),(oN 13 12,0,6),(oF 14 1 13,0,6),(oL 15 14,0,6),(oM 16 1,0,6),((oG 17 (.load 2 true (oT 5))),0,6),((oE (.mapPut (.int .i64) (oT 15) (oT 16) (oT 17))),0,7)]) .skip)) (.seq (.region [oM 18 7,(oG 19 (.call 67
 [oT 18])),oM 6 19]) .ret)))) 20 [.tmp 6])
def a265 : AFn :=
 (.mk (.seq (.region [(oG 2 (.mv (.const (.int .u32 0))))]) (.seq (.region [(oG 3 (.mv (.const (.int .u32 4294967295))))]) (.seq (.seq (.region [oM 8 0,(oG 9 (.len (oT 8))),(oG 10 (.mv (oC 0)))]) (.block 0 (.loop (.seq (.region
 [(oG 11 (.bin .lss (oT 10) (oT 9)))]) (.seq (.cond (oT 11) .skip (.exit 0)) (.seq (.block 1 (.seq (.region [(oG 12 (.atSlice 1 (oT 8) (oT 10))),oL 13 12,oM 5 13]) (.seq (.region [oM 14 5,(oG 15 (.len (oT 14))),(oG 16 (.mv (oC
 0)))]) (.block 2 (.loop (.seq (.region [(oG 17 (.bin .lss (oT 16) (oT 15)))]) (.seq (.cond (oT 17) .skip (.exit 2)) (.seq (.block 3 (.seq (.region [(oG 18 (.atSlice 1 (oT 14) (oT 16))),oL 19 18,oM 7 19]) (.seq (.region [oM 20 3,oM
 21 7,(oG 22 (.conv .u32 (oT 21))),(oG 23 (.bin .xor (oT 20) (oT 22))),oM 3 23]) (.seq (.region [(oG 24 (.mv (oC 0)))]) (.block 4 (.loop (.seq (.region [(oG 25 (.bin .lss (oT 24) (oC 8)))]) (.seq (.cond (oT 25) .skip (.exit 4))
 (.seq (.block 5 (.seq (.region [oM 26 3,(oG 27 (.bin .and (oT 26) (.const (.int .u32 1)))),(oG 28 (.bin .eql (oT 27) (.const (.int .u32 1))))]) (.cond (oT 28) (.region [oM 29 3,(oG 30 (.bin .shr (oT 29) (.const (.int .u64
 1)))),(oG 31 (.bin .xor (oT 30) (.const (.int .u32 2197175160)))),oM 3 31]) (.region [oM 32 3,(oG 33 (.bin .shr (oT 32) (.const (.int .u64 1)))),oM 3 33])))) (.region [(oG 34 (.bin .add (oT 24) (oC 1))),oM 24 34]))))))))))
 (.region [(oG 35 (.bin .add (oT 16) (oC 1))),oM 16 35]))))))))) (.region [(oG 36 (.bin .add (oT 10) (oC 1))),oM 10 36]))))))) (.seq (.region [oM 37 3,(oG 38 (.un .xor (oT 37))),oM 2 38]) .ret)))) 39 [.tmp 2])
def a266 : AFn :=
 (.mk (.seq (.region [(oG 2 (.mv (.const .nilIface)))]) (.seq (.seq (.region [oM 3 0,oN 4 3,oF 5 2 4,oL 6 5,(oG 7 (.bin .eql (oT 6) (oC 0)))]) (.cond (oT 7) (.seq (.region [oM 8 0,oN 9 8,oF 10 3 9,(oE (.store 1 (oT 10) (.const
 (.bool true))))]) (.seq (.region [(oG 11 (.call 90 [oC 8])),oM 2 11]) .ret)) .skip)) (.seq (.seq (.region [oM 12 0,oN 13 12,oF 14 2 13,oL 15 14,(oG 16 (.bin .gtr (oT 15) (oC 0)))]) (.cond (oT 16) (.region [oM 17 0,oN 18 17,oF 19 2
 18,oL 20 19,(oG 21 (.bin .sub (oT 20) (oC 1))),oN 22 17,oF 23 2 22,oS 23 21]) .skip)) (.seq (.region [(oG 2 (.mv (.const .nilIface)))]) .ret)))) 24 [.tmp 2])
def a267 : AFn :=
 (.mk (.seq (.region [(oG 4 (.mv (.const (.slice none 0 0)))),(oG 5 (.mv (oC 0)))]) (.seq (.region [oM 9 0,oN 10 9,oF 11 0 10,oL 12 11,oM 13 1,(oG 14 (.call 350 [oT 12,oT 13])),oM 8 14,oX 15 8 0,oX 16 8 1,oM 6 15,oM 7 16]) (.seq
 (.region [oM 17 6,(oG 18 (.call 351 [oT 17])),oX 19 18 0,oX 20 18 1,oM 4 19,oM 5 20]) .ret))) 21 [.tmp 4,.tmp 5])
def a268 : AFn :=
 (.mk (.seq (.region [(oG 4 (.mv (oC 0)))]) (.seq (.seq (.region [oM 5 0,(oG 6 (.eq .ptr false (oT 5) (.const (.pointer none))))]) (.cond (oT 6) (.seq (.region [(oG 4 (.mv (oC 0)))]) .ret) .skip)) (.seq (.region [oM 7 0,oN 8 7,oF 9
 1 8,oL 10 9,oM 11 1,(oG 12 (.lookup (.int .i64) (.agg [(.slice none 0 0 0 0),(.int .i64 0)]) false (oT 10) (oT 11))),(oG 13 (.field 0 1 false (oT 12))),(oG 14 (.len (oT 13))),oM 4 14]) .ret))) 15 [.tmp 4])
def a269 : AFn :=
 (.mk (.seq (.region [(oG 6 (.mv (oC 0)))]) (.seq (.region [oM 9 0,oM 10 1,(oG 11 (.call 262 [oT 9,oT 10,(.const (.bool false))])),oM 7 11]) (.seq (.seq (.region [oM 12 7,(oG 13 (.eq (.iface true) false (oT 12) (.const
 .nilIface))),oM 14 13,(.mk (some 15) (.mv (oT 2)) (some (14,true))),(.mk (some 16) (.bin .lss (oT 15) (oC 0)) (some (14,true))),(.mk (some 17) (.mv (oT 16)) (some (14,true))),(.mk (some 18) (.mv (oT 2)) (some (17,false))),(.mk
 (some 19) (.mv (oT 0)) (some (17,false))),(.mk (some 20) (.nilCheck (oT 19)) (some (17,false))),(.mk (some 21) (.fieldAddr 1 (oT 20)) (some (17,false))),(.mk (some 22) (.load 1 false (oT 21)) (some (17,false))),(.mk (some 23) (.mv
 (oT 1)) (some (17,false))),(.mk (some 24) (.lookup (.int .i64) (.agg [(.slice none 0 0 0 0),(.int .i64 0)]) false (oT 22) (oT 23)) (some (17,false))),(.mk (some 25) (.field 0 1 false (oT 24)) (some (17,false))),(.mk (some 26)
 (.len (oT 25)) (some (17,false))),(.mk (some 27) (.bin .gtr (oT 18) (oT 26)) (some (17,false))),(.mk (some 28) (.pick (oT 17) (.const (.bool true)) (oT 27)) (some (14,true))),(oG 29 (.pick (oT 14) (oT 28) (.const (.bool
 false))))]) (.cond (oT 29) (.region [(oG 30 (.call 90 [oC 2])),oM 7 30]) .skip)) (.seq (.seq (.region [oM 31 7,(oG 32 (.eq (.iface true) true (oT 31) (.const .nilIface)))]) (.cond (oT 32) (.seq (.region [oM 33 7,(oG 34 (.call 67
 [oT 33])),oM 6 34]) .ret) .skip)) (.seq (.region [oM 35 0,oN 36 35,oF 37 1 36,oL 38 37,oM 39 1,(oG 40 (.lookup (.int .i64) (.agg [(.slice none 0 0 0 0),(.int .i64 0)]) false (oT 38) (oT 39))),(oG 8 (.alloc [(.slice none 0 0 0
 0),(.int .i64 0)])),(oE (.store 2 (oT 8) (oT 40)))]) (.seq (.draws [(oM 41 0,0,12),(oM 42 1,0,12),(oF 43 0 8,0,12),(oL 44 43,0,12),(oM 45 2,0,12),(oM 46 2,0,12),((oG 47 (.cutSlice 1 (oT 44) none (some (oT 45)) (some (oT
 46)))),0,12),(oF 48 1 8,0,12),(oL 49 48,0,12),(oM 50 2,0,12),((oG 51 (.minmax false [oT 49,oT 50])),0,12),((oG 52 (.build [(.slice none 0 0 0 0),(.int .i64 0)] [(0,(1,(oT 47))),(1,(1,(oT 51)))])),0,12),((oG 53 (.call 264 [oT 41,oT
 42,oT 52])),0,14),(oM 6 53,13,14)]) .ret)))))) 54 [.tmp 6])
def a270 : AFn :=
 (.mk (.seq (.region [(oG 2 (.mv (.const (.bool false))))]) (.seq (.region [oM 3 0,(oG 4 (.len (oT 3))),(oG 5 (.bin .gtr (oT 4) (oC 0))),oM 6 5,(.mk (some 7) (.mv (oT 0)) (some (6,true))),(.mk (some 8) (.atSlice 1 (oT 7) (oC 0))
 (some (6,true))),(.mk (some 9) (.load 1 false (oT 8)) (some (6,true))),(.mk (some 10) (.len (oT 9)) (some (6,true))),(.mk (some 11) (.bin .gtr (oT 10) (oC 0)) (some (6,true))),(oG 12 (.pick (oT 6) (oT 11) (.const (.bool
 false)))),oM 13 12,(.mk (some 14) (.mv (oT 0)) (some (13,true))),(.mk (some 15) (.atSlice 1 (oT 14) (oC 0)) (some (13,true))),(.mk (some 16) (.load 1 false (oT 15)) (some (13,true))),(.mk (some 17) (.atSlice 1 (oT 16) (oC 0))
 (some (13,true))),(.mk (some 18) (.load 1 false (oT 17)) (some (13,true))),(.mk (some 19) (.bin .eql (oT 18) (.const (.int .u8 1))) (some (13,true))),(oG 20 (.pick (oT 13) (oT 19) (.const (.bool false)))),oM 2 20]) .ret)) 21 [.tmp
 2])
def a271 : AFn :=
 (.mk (.seq (.region [(oG 2 (.mv (.const (.bool false))))]) (.seq (.region [oM 3 0,(oG 4 (.eq .ptr false (oT 3) (.const (.pointer none)))),oM 5 4,(.mk (some 6) (.mv (oT 0)) (some (5,false))),(.mk (some 7) (.nilCheck (oT 6)) (some
 (5,false))),(.mk (some 8) (.fieldAddr 2 (oT 7)) (some (5,false))),(.mk (some 9) (.load 1 false (oT 8)) (some (5,false))),(.mk (some 10) (.eq (.iface true) true (oT 9) (.const .nilIface)) (some (5,false))),(oG 11 (.pick (oT 5)
 (.const (.bool true)) (oT 10))),oM 2 11]) .ret)) 12 [.tmp 2])
def a272 : AFn :=
 (.mk (.seq (.region [(oG 2 (.mv (.const (.int .u64 0)))),(oG 3 (.mv (.const (.bool false))))]) (.seq (.region [oM 11 0,(oG 12 (.call 352 [oT 11,(.const (.int .u64 1))])),oM 10 12,oX 13 10 0,oX 14 10 1,oM 4 13,oM 5 14]) (.seq (.seq
 (.region [oM 15 5,(oG 16 (.un .not (oT 15))),oM 17 16,(.mk (some 18) (.mv (oT 4)) (some (17,false))),(.mk (some 19) (.atSlice 1 (oT 18) (oC 0)) (some (17,false))),(.mk (some 20) (.load 1 false (oT 19)) (some (17,false))),(.mk
 (some 21) (.bin .gtr (oT 20) (.const (.int .u8 8))) (some (17,false))),(oG 22 (.pick (oT 17) (.const (.bool true)) (oT 21)))]) (.cond (oT 22) (.seq (.region [(oG 2 (.mv (.const (.int .u64 0)))),(oG 3 (.mv (.const (.bool
 false))))]) .ret) .skip)) (.seq (.region [oM 24 0,oM 25 4,(oG 26 (.atSlice 1 (oT 25) (oC 0))),oL 27 26,(oG 28 (.conv .u64 (oT 27))),(oG 29 (.call 352 [oT 24,oT 28])),oM 23 29,oX 30 23 0,oX 31 23 1,oM 6 30,oM 5 31]) (.seq (.seq
 (.region [oM 32 5,(oG 33 (.un .not (oT 32))),oM 34 33,(.mk (some 35) (.mv (oT 6)) (some (34,false))),(.mk (some 36) (.len (oT 35)) (some (34,false))),(.mk (some 37) (.bin .gtr (oT 36) (oC 0)) (some (34,false))),(.mk (some 38) (.mv
 (oT 37)) (some (34,false))),(.mk (some 39) (.mv (oT 6)) (some (38,true))),(.mk (some 40) (.atSlice 1 (oT 39) (oC 0)) (some (38,true))),(.mk (some 41) (.load 1 false (oT 40)) (some (38,true))),(.mk (some 42) (.bin .eql (oT 41)
 (.const (.int .u8 0))) (some (38,true))),(.mk (some 43) (.pick (oT 38) (oT 42) (.const (.bool false))) (some (34,false))),(oG 44 (.pick (oT 34) (.const (.bool true)) (oT 43)))]) (.cond (oT 44) (.seq (.region [(oG 2 (.mv (.const
 (.int .u64 0)))),(oG 3 (.mv (.const (.bool false))))]) .ret) .skip)) (.seq (.region [(oG 7 (.mv (.const (.int .u64 0))))]) (.seq (.seq (.region [oM 45 6,(oG 46 (.len (oT 45))),(oG 47 (.mv (oC 0)))]) (.block 0 (.loop (.seq (.region
 [(oG 48 (.bin .lss (oT 47) (oT 46)))]) (.seq (.cond (oT 48) .skip (.exit 0)) (.seq (.block 1 (.seq (.region [(oG 49 (.atSlice 1 (oT 45) (oT 47))),oL 50 49,oM 9 50]) (.region [oM 51 7,(oG 52 (.bin .shl (oT 51) (.const (.int .u64
 8)))),oM 53 9,(oG 54 (.conv .u64 (oT 53))),(oG 55 (.bin .or (oT 52) (oT 54))),oM 7 55]))) (.region [(oG 56 (.bin .add (oT 47) (oC 1))),oM 47 56]))))))) (.seq (.region [oM 57 7,oM 2 57,(oG 3 (.mv (.const (.bool true))))])
 .ret)))))))) 58 [.tmp 2,.tmp 3])
def a273 : AFn :=
 (.mk (.seq (.seq (.region [oM 6 0,oN 7 6,oF 8 2 7,oL 9 8,(oG 10 (.eq (.iface true) false (oT 9) (.const .nilIface)))]) (.cond (oT 10) (.region [oM 11 0,oM 12 1,oM 13 2,(oG 14 (.call 90 [oT 13])),(oG 15 (.call 82 [oT 12,oT 14])),oN
 16 11,oF 17 2 16,oS 17 15]) .skip)) (.region [oM 18 0,oM 19 1,oN 20 18,oF 21 1 20,oS 21 19])) 22 [])
def a274 : AFn :=
 (.mk (.seq (.region [(oG 4 (.mv (.const (.string (ByteArray.mk #[])))))]) (.seq (.seq (.region [oM 8 0,(oG 9 (.call 271 [oT 8]))]) (.cond (oT 9) (.seq (.region [(oG 4 (.mv (.const (.string (ByteArray.mk #[])))))]) .ret) .skip))
 (.seq (.region [oM 10 0,oN 11 10,oF 12 1 11,oL 13 12,oM 5 13]) (.seq (.region [oM 15 0,oM 16 1,(oG 17 (.call 353 [oT 15,oT 16])),oM 14 17,oX 18 14 0,oX 19 14 1,oM 6 18,oM 7 19]) (.seq (.seq (.region [oM 20 7,(oG 21 (.bin .neq (oT
 20) (oC 0)))]) (.cond (oT 21) (.region [oM 22 0,oM 23 5,oM 24 7,(oG 25 (.call 273 [oT 22,oT 23,oT 24]))]) .skip)) (.seq (.region [oM 26 6,oM 4 26]) .ret)))))) 27 [.tmp 4])
def a275 : AFn :=
 (.mk (.seq (.region [(oG 2 (.mv (.const (.bool false))))]) (.seq (.seq (.region [oM 6 0,(oG 7 (.call 271 [oT 6]))]) (.cond (oT 7) (.seq (.region [(oG 2 (.mv (.const (.bool false))))]) .ret) .skip)) (.seq (.region [oM 8 0,oN 9 8,oF
 10 1 9,oL 11 10,oM 3 11]) (.seq (.region [oM 13 0,(oG 14 (.call 352 [oT 13,(.const (.int .u64 1))])),oM 12 14,oX 15 12 0,oX 16 12 1,oM 4 15,oM 5 16]) (.seq (.seq (.region [oM 17 5,(oG 18 (.un .not (oT 17))),oM 19 18,(.mk (some 20)
 (.mv (oT 4)) (some (19,false))),(.mk (some 21) (.atSlice 1 (oT 20) (oC 0)) (some (19,false))),(.mk (some 22) (.load 1 false (oT 21)) (some (19,false))),(.mk (some 23) (.bin .gtr (oT 22) (.const (.int .u8 1))) (some
 (19,false))),(oG 24 (.pick (oT 19) (.const (.bool true)) (oT 23)))]) (.cond (oT 24) (.seq (.region [oM 25 0,oM 26 3,(oG 27 (.call 273 [oT 25,oT 26,oC 6]))]) (.seq (.region [(oG 2 (.mv (.const (.bool false))))]) .ret)) .skip))
 (.seq (.region [oM 28 4,(oG 29 (.atSlice 1 (oT 28) (oC 0))),oL 30 29,(oG 31 (.bin .eql (oT 30) (.const (.int .u8 1)))),oM 2 31]) .ret)))))) 32 [.tmp 2])
def a276 : AFn :=
 (.mk (.seq (.region [(oG 2 (.mv (oC 0)))]) (.seq (.region [oM 3 0,(oG 4 (.call 167 [oT 3])),(oG 5 (.call 354 [oT 4])),oM 2 5]) .ret)) 6 [.tmp 2])
def a277 : AFn :=
 (.mk (.seq (.region [(oG 2 (.mv (oC 0)))]) (.seq (.seq (.draws [(oM 3 0,0,21),((oG 4 (.eq .ptr true (oT 3) (.const (.pointer none)))),0,21),(oM 5 4,0,21),((.mk (some 6) (.mv (oT 0)) (some (5,true))),0,21),((.mk (some 7) (.nilCheck
 (oT 6)) (some (5,true))),0,21),((.mk (some 8) (.fieldAddr 2 (oT 7)) (some (5,true))),0,21),((.mk (some 9) (.load 1 false (oT 8)) (some (5,true))),0,21),((.mk (some 10) (.eq (.iface true) false (oT 9) (.const .nilIface)) (some
 (5,true))),0,21),((oG 11 (.pick (oT 5) (oT 10) (.const (.bool false)))),0,21),(oM 12 11,0,21),((.mk (some 13) (.mv (oT 0)) (some (12,true))),0,21),((.mk (some 14) (.nilCheck (oT 13)) (some (12,true))),0,21),((.mk (some 15)
 (.fieldAddr 1 (oT 14)) (some (12,true))),0,21),((.mk (some 16) (.load 1 false (oT 15)) (some (12,true))),0,21),((.mk (some 17) (.mv (oT 0)) (some (12,true))),0,21),((.mk (some 18) (.nilCheck (oT 17)) (some (12,true))),0,21),((.mk
 (some 19) (.fieldAddr 0 (oT 18)) (some (12,true))),0,21),((.mk (some 20) (.load 1 false (oT 19)) (some (12,true))),0,21),((.mk (some 21) (.len (oT 20)) (some (12,true))),0,21),((.mk (some 22) (.bin .lss (oT 16) (oT 21)) (some
 (12,true))),0,21),((oG 23 (.pick (oT 12) (oT 22) (.const (.bool false)))),0,21)]) (.cond (oT 23) (.region [oM 24 0,oM 25 0,oN 26 25,oF 27 1 26,oL 28 27,(oG 29 (.call 273 [oT 24,oT 28,oC 6]))]) .skip)) (.seq (.region [oM 30 0,(oG
 31 (.call 168 [oT 30])),oM 2 31]) .ret))) 32 [.tmp 2])
def a297 : AFn :=
 (.mk (.seq (.region [(oG 4 (.mv (oC 0))),(oG 5 (.mv (.const (.bool false))))]) (.seq (.region [oM 6 0,oN 7 6,oF 8 0 7,oL 9 8,oM 10 1,(oG 11 (.call 372 [oT 9,oT 10,(.func 373)])),oX 12 11 0,oX 13 11 1,oM 4 12,oM 5 13]) .ret)) 14
 [.tmp 4,.tmp 5])
def a298 : AFn :=
 (.mk (.seq (.region [(oG 6 (.mv (.const (.slice none 0 0))))]) (.seq (.region [oM 10 0,oM 11 1,(oG 12 (.cutSlice 2 (oT 10) (some (oT 11)) none none))]) (.seq (.region [oM 13 2,(oG 14 (.len (oT 13))),oM 7 14]) (.seq (.seq (.region
 [oM 15 7,(oG 16 (.bin .eql (oT 15) (oC 0)))]) (.cond (oT 16) (.seq (.region [oM 17 0,oM 6 17]) .ret) .skip)) (.seq (.region [oM 18 0,(oG 19 (.len (oT 18))),oM 8 19]) (.seq (.seq (.region [oM 20 1,oM 21 8,(oG 22 (.bin .eql (oT 20)
 (oT 21)))]) (.cond (oT 22) (.seq (.region [oM 23 0,oM 24 2,(oG 25 (.append false 2 24 (oT 23) (oT 24))),oM 6 25]) .ret) .skip)) (.seq (.seq (.region [oM 26 8,oM 27 7,(oG 28 (.bin .add (oT 26) (oT 27))),oM 29 0,(oG 30 (.cap (oT
 29))),(oG 31 (.bin .gtr (oT 28) (oT 30)))]) (.cond (oT 31) (.seq (.region [oM 32 0,oM 33 1,(oG 34 (.cutSlice 2 (oT 32) none (some (oT 33)) none)),oM 35 8,oM 36 7,(oG 37 (.bin .add (oT 35) (oT 36))),oM 38 1,(oG 39 (.bin .sub (oT
 37) (oT 38))),(oG 40 (.appendZ 2 24 [(.str []),(.int .i64 0)] (oT 34) (oT 39))),oM 9 40]) (.seq (.region [oM 41 9,oM 42 1,(oG 43 (.cutSlice 2 (oT 41) (some (oT 42)) none none)),oM 44 2,(oG 45 (.extract (.const (.bool false)) 0))])
 (.seq (.draws [(oM 46 9,0,9),(oM 47 1,0,9),(oM 48 7,0,9),((oG 49 (.bin .add (oT 47) (oT 48))),0,9),((oG 50 (.cutSlice 2 (oT 46) (some (oT 49)) none none)),0,9),(oM 51 0,0,9),(oM 52 1,0,9),((oG 53 (.cutSlice 2 (oT 51) (some (oT
 52)) none none)),0,9),((oG 54 (.extract (.const (.bool false)) 0)),0,9)]) (.seq (.region [oM 55 9,oM 6 55]) .ret)))) .skip)) (.seq (.region [oM 56 0,oM 57 8,oM 58 7,(oG 59 (.bin .add (oT 57) (oT 58))),(oG 60 (.cutSlice 2 (oT 56)
 none (some (oT 59)) none)),oM 0 60]) (.seq (.seq (.region [oM 61 2,oM 62 0,oM 63 1,oM 64 7,(oG 65 (.bin .add (oT 63) (oT 64))),(oG 66 (.cutSlice 2 (oT 62) (some (oT 65)) none none)),(oG 67 (.call 375 [oT 61,oT 66])),(oG 68 (.un
 .not (oT 67)))]) (.cond (oT 68) (.seq (.draws [(oM 69 0,0,9),(oM 70 1,0,9),(oM 71 7,0,9),((oG 72 (.bin .add (oT 70) (oT 71))),0,9),((oG 73 (.cutSlice 2 (oT 69) (some (oT 72)) none none)),0,9),(oM 74 0,0,9),(oM 75 1,0,9),((oG 76
 (.cutSlice 2 (oT 74) (some (oT 75)) none none)),0,9),((oG 77 (.extract (.const (.bool false)) 0)),0,9)]) (.seq (.region [oM 78 0,oM 79 1,(oG 80 (.cutSlice 2 (oT 78) (some (oT 79)) none none)),oM 81 2,(oG 82 (.extract (.const
 (.bool false)) 0))]) (.seq (.region [oM 83 0,oM 6 83]) .ret))) .skip)) (.seq (.region [oM 84 0,oM 85 8,(oG 86 (.cutSlice 2 (oT 84) (some (oT 85)) none none)),oM 87 2,(oG 88 (.extract (.const (.bool false)) 0))]) (.seq (.region [oM
 89 0,oM 90 1,(oG 91 (.cutSlice 2 (oT 89) (some (oT 90)) none none)),oM 92 7,(oG 93 (.call 376 [oT 91,oT 92]))]) (.seq (.region [oM 94 0,oM 6 94]) .ret)))))))))))) 95 [.tmp 6])
def a331 : AFn :=
 (.mk (.seq (.region [(oG 2 (.mv (.const (.slice none 0 0)))),(oG 3 (.mv (oC 0)))]) (.seq (.seq (.region [oM 5 0,(oG 6 (.len (oT 5))),(oG 7 (.bin .lss (oT 6) (oC 7)))]) (.cond (oT 7) (.seq (.region [(oG 2 (.mv (.const (.slice none
 0 0)))),(oG 3 (.mv (oC 0)))]) .ret) .skip)) (.seq (.draws [(oM 8 0,0,11),((oG 9 (.atSlice 1 (oT 8) (oC 1))),0,11),(oL 10 9,0,11),((oG 11 (.conv .i64 (oT 10))),0,11),((oG 12 (.bin .mul (oC 256) (oT 11))),0,11),(oM 13 0,0,11),((oG
 14 (.atSlice 1 (oT 13) (oC 2))),0,11),(oL 15 14,0,11),((oG 16 (.conv .i64 (oT 15))),0,11),((oG 17 (.bin .add (oT 12) (oT 16))),0,11),(oM 4 17,0,11)]) (.seq (.seq (.region [oM 18 4,(oG 19 (.bin .gtr (oT 18) (oC 16384))),oM 20
 19,(.mk (some 21) (.mv (oT 0)) (some (20,false))),(.mk (some 22) (.len (oT 21)) (some (20,false))),(.mk (some 23) (.mv (oT 4)) (some (20,false))),(.mk (some 24) (.bin .add (oT 23) (oC 7)) (some (20,false))),(.mk (some 25) (.bin
 .lss (oT 22) (oT 24)) (some (20,false))),(oG 26 (.pick (oT 20) (.const (.bool true)) (oT 25)))]) (.cond (oT 26) (.seq (.region [(oG 2 (.mv (.const (.slice none 0 0)))),(oG 3 (.mv (oC 0)))]) .ret) .skip)) (.seq (.seq (.draws [(oM
 27 0,0,4),(oM 28 4,0,4),((oG 29 (.bin .add (oC 3) (oT 28))),0,4),((oG 30 (.cutSlice 1 (oT 27) (some (oC 3)) (some (oT 29)) none)),0,4),((oG 31 (.call 296 [oT 30])),0,12),((oG 32 (.textOf (oT 31))),5,12),(oM 33 0,0,12),(oM 34
 4,0,12),((oG 35 (.bin .add (oT 34) (oC 7))),0,12),((oG 36 (.cutSlice 1 (oT 33) none (some (oT 35)) none)),0,12),((oG 37 (.textOf (oT 36))),0,12),((oG 38 (.bin .neq (oT 32) (oT 37))),5,12)]) (.cond (oT 38) (.seq (.region [(oG 2
 (.mv (.const (.slice none 0 0)))),(oG 3 (.mv (oC 0)))]) .ret) .skip)) (.seq (.region [oM 39 0,oM 40 4,(oG 41 (.bin .add (oC 3) (oT 40))),(oG 42 (.cutSlice 1 (oT 39) (some (oC 3)) (some (oT 41)) none)),oM 43 4,(oG 44 (.bin .add (oT
 43) (oC 7))),oM 2 42,oM 3 44]) .ret)))))) 45 [.tmp 2,.tmp 3])
def a332 : AFn :=
 (.mk (.seq (.region [(oG 4 (.mv (oC 0)))]) (.seq (.seq (.region [oM 7 0,oN 8 7,oF 9 1 8,oL 10 9,(oG 11 (.len (oT 10))),(oG 12 (.mv (oC 0)))]) (.block 0 (.loop (.seq (.region [(oG 13 (.bin .lss (oT 12) (oT 11)))]) (.seq (.cond (oT
 13) .skip (.exit 0)) (.seq (.block 1 (.seq (.region [oM 14 12,(oG 15 (.atSlice 3 (oT 10) (oT 12))),(oG 16 (.load 3 true (oT 15))),(oG 6 (.alloc [(.int .i64 0),(.slice none 0 0 0 0),(.int .i64 0)])),oM 5 14,(oE (.store 3 (oT 6) (oT
 16)))]) (.seq (.region [oF 17 0 6,oL 18 17,oM 19 1,(oG 20 (.bin .eql (oT 18) (oT 19)))]) (.cond (oT 20) (.seq (.region [oM 21 5,oM 4 21]) .ret) .skip)))) (.region [(oG 22 (.bin .add (oT 12) (oC 1))),oM 12 22]))))))) (.seq (.region
 [(oG 4 (.mv (.const (.int .i64 (-1)))))]) .ret))) 23 [.tmp 4])
def a333 : AFn :=
 (.mk (.seq (.region [(oG 2 (.mv (oC 0)))]) (.seq (.draws [(oM 4 0,0,8),(oN 5 4,0,8),(oF 6 0 5,0,8),(oL 7 6,0,8),(oM 8 0,0,5),((oG 9 (.call 146 [oT 8])),0,8),((oG 10 (.bin .sub (oT 7) (oT 9))),6,8),(oM 3 10,6,8)]) (.seq (.seq
 (.region [oM 11 3,(oG 12 (.bin .lss (oT 11) (oC 0)))]) (.cond (oT 12) (.seq (.region [(oG 2 (.mv (oC 0)))]) .ret) .skip)) (.seq (.region [oM 13 3,oM 2 13]) .ret)))) 14 [.tmp 2])
def a334 : AFn :=
 (.mk (.seq (.region [(oG 2 (.mv (.const (.bool false))))]) (.seq (.seq (.region [oM 3 0,oN 4 3,oF 5 2 4,oL 6 5,(oG 7 (.bin .eql (oT 6) (oC 0)))]) (.cond (oT 7) (.seq (.region [oM 8 0,oN 9 8,oF 10 3 9,(oE (.store 1 (oT 10) (.const
 (.bool true))))]) (.seq (.region [(oG 2 (.mv (.const (.bool true))))]) .ret)) .skip)) (.seq (.seq (.region [oM 11 0,oN 12 11,oF 13 2 12,oL 14 13,(oG 15 (.bin .gtr (oT 14) (oC 0)))]) (.cond (oT 15) (.region [oM 16 0,oN 17 16,oF 18
 2 17,oL 19 18,(oG 20 (.bin .sub (oT 19) (oC 1))),oN 21 16,oF 22 2 21,oS 22 20]) .skip)) (.seq (.region [(oG 2 (.mv (.const (.bool false))))]) .ret)))) 23 [.tmp 2])
def a335 : AFn :=
 (.mk (.seq (.region [(oG 3 (.box (oT 1)))]) (.seq (.region [(oG 4 (.mv (.const (.slice none 0 0))))]) (.seq (.region [(oG 5 (.mv (.const (.bool false))))]) (.seq (.seq (.region [oM 8 0,oN 9 8,oF 10 1 9,oL 11 10,(oG 12 (.len (oT
 11))),(oG 13 (.mv (oC 0)))]) (.block 0 (.loop (.seq (.region [(oG 14 (.bin .lss (oT 13) (oT 12)))]) (.seq (.cond (oT 14) .skip (.exit 0)) (.seq (.block 1 (.seq (.region [(oG 15 (.atSlice 3 (oT 11) (oT 13))),(oG 16 (.load 3 true
 (oT 15))),(oG 7 (.alloc [(.int .i64 0),(.slice none 0 0 0 0),(.int .i64 0)])),(oE (.store 3 (oT 7) (oT 16)))]) (.seq (.seq (.region [oM 17 5,(oG 18 (.un .not (oT 17))),oM 19 18,(.mk (some 20) (.fieldAddr 0 (oT 7)) (some
 (19,true))),(.mk (some 21) (.load 1 false (oT 20)) (some (19,true))),(.mk (some 22) (.fieldAddr 0 (oT 3)) (some (19,true))),(.mk (some 23) (.load 1 false (oT 22)) (some (19,true))),(.mk (some 24) (.bin .geq (oT 21) (oT 23)) (some
 (19,true))),(oG 25 (.pick (oT 19) (oT 24) (.const (.bool false))))]) (.cond (oT 25) (.seq (.region [oM 26 4,(oG 27 (.load 3 true (oT 3))),(oG 28 (.buildSlice 1 3 [(.int .i64 0),(.slice none 0 0 0 0),(.int .i64 0)] [(0,(3,(oT
 27)))])),(oG 29 (.append false 3 40 (oT 26) (oT 28))),oM 4 29]) (.region [(oG 5 (.mv (.const (.bool true))))])) .skip)) (.seq (.region [oF 30 0 7,oL 31 30,oF 32 0 3,oL 33 32,(oG 34 (.bin .neq (oT 31) (oT 33)))]) (.cond (oT 34)
 (.region [oM 35 4,(oG 36 (.load 3 true (oT 7))),(oG 37 (.buildSlice 1 3 [(.int .i64 0),(.slice none 0 0 0 0),(.int .i64 0)] [(0,(3,(oT 36)))])),(oG 38 (.append false 3 40 (oT 35) (oT 37))),oM 4 38]) .skip))))) (.region [(oG 39
 (.bin .add (oT 13) (oC 1))),oM 13 39]))))))) (.seq (.seq (.region [oM 40 5,(oG 41 (.un .not (oT 40)))]) (.cond (oT 41) (.region [oM 42 4,(oG 43 (.load 3 true (oT 3))),(oG 44 (.buildSlice 1 3 [(.int .i64 0),(.slice none 0 0 0
 0),(.int .i64 0)] [(0,(3,(oT 43)))])),(oG 45 (.append false 3 40 (oT 42) (oT 44))),oM 4 45]) .skip)) (.region [oM 46 0,oM 47 4,oN 48 46,oF 49 1 48,oS 49 47])))))) 50 [])
def a336 : AFn :=
 (.mk (.seq (.region [(oG 4 (.mv (.const (.int .u64 0)))),(oG 5 (.mv (oC 0)))]) (.seq (.seq (.region [oM 9 1,oM 10 0,oN 11 10,oF 12 0 11,oL 13 12,(oG 14 (.len (oT 13))),(oG 15 (.bin .geq (oT 9) (oT 14))),oM 16 15,(.mk (some 17)
 (.mv (oT 0)) (some (16,false))),(.mk (some 18) (.nilCheck (oT 17)) (some (16,false))),(.mk (some 19) (.fieldAddr 0 (oT 18)) (some (16,false))),(.mk (some 20) (.load 1 false (oT 19)) (some (16,false))),(.mk (some 21) (.mv (oT 1))
 (some (16,false))),(.mk (some 22) (.atSlice 1 (oT 20) (oT 21)) (some (16,false))),(.mk (some 23) (.load 1 false (oT 22)) (some (16,false))),(.mk (some 24) (.bin .gtr (oT 23) (.const (.int .u8 8))) (some (16,false))),(oG 25 (.pick
 (oT 16) (.const (.bool true)) (oT 24)))]) (.cond (oT 25) (.seq (.region [(oG 4 (.mv (.const (.int .u64 0)))),(oG 5 (.mv (oC 0)))]) .ret) .skip)) (.seq (.region [oM 26 0,oN 27 26,oF 28 0 27,oL 29 28,oM 30 1,(oG 31 (.atSlice 1 (oT
 29) (oT 30))),oL 32 31,(oG 33 (.conv .i64 (oT 32))),oM 6 33]) (.seq (.seq (.region [oM 34 6,oM 35 0,oN 36 35,oF 37 0 36,oL 38 37,(oG 39 (.len (oT 38))),oM 40 1,(oG 41 (.bin .sub (oT 39) (oT 40))),(oG 42 (.bin .sub (oT 41) (oC
 1))),(oG 43 (.bin .gtr (oT 34) (oT 42)))]) (.cond (oT 43) (.seq (.region [(oG 4 (.mv (.const (.int .u64 0)))),(oG 5 (.mv (oC 0)))]) .ret) .skip)) (.seq (.region [(oG 7 (.mv (.const (.int .u64 0))))]) (.seq (.seq (.region [(oG 8
 (.mv (oC 1)))]) (.block 0 (.loop (.seq (.seq (.region [oM 44 8,oM 45 6,(oG 46 (.bin .leq (oT 44) (oT 45)))]) (.cond (oT 46) .skip (.exit 0))) (.seq (.block 1 (.region [oM 49 7,(oG 50 (.bin .mul (oT 49) (.const (.int .u64
 256)))),oM 51 0,oN 52 51,oF 53 0 52,oL 54 53,oM 55 1,oM 56 8,(oG 57 (.bin .add (oT 55) (oT 56))),(oG 58 (.atSlice 1 (oT 54) (oT 57))),oL 59 58,(oG 60 (.conv .u64 (oT 59))),(oG 61 (.bin .add (oT 50) (oT 60))),oM 7 61])) (.region
 [oM 47 8,(oG 48 (.bin .add (oT 47) (oC 1))),oM 8 48])))))) (.seq (.seq (.region [oM 62 6,(oG 63 (.bin .gtr (oT 62) (oC 0))),oM 64 63,(.mk (some 65) (.mv (oT 0)) (some (64,true))),(.mk (some 66) (.nilCheck (oT 65)) (some
 (64,true))),(.mk (some 67) (.fieldAddr 0 (oT 66)) (some (64,true))),(.mk (some 68) (.load 1 false (oT 67)) (some (64,true))),(.mk (some 69) (.mv (oT 1)) (some (64,true))),(.mk (some 70) (.bin .add (oT 69) (oC 1)) (some
 (64,true))),(.mk (some 71) (.atSlice 1 (oT 68) (oT 70)) (some (64,true))),(.mk (some 72) (.load 1 false (oT 71)) (some (64,true))),(.mk (some 73) (.bin .eql (oT 72) (.const (.int .u8 0))) (some (64,true))),(oG 74 (.pick (oT 64)
 (oT 73) (.const (.bool false))))]) (.cond (oT 74) (.seq (.region [(oG 4 (.mv (.const (.int .u64 0)))),(oG 5 (.mv (oC 0)))]) .ret) .skip)) (.seq (.region [oM 75 7,oM 76 6,(oG 77 (.bin .add (oT 76) (oC 1))),oM 4 75,oM 5 77])
 .ret)))))))) 78 [.tmp 4,.tmp 5])
def a337 : AFn :=
 (.mk (.seq (.region [oM 6 0,oM 7 2,oN 8 6,oF 9 2 8,oS 9 7]) (.seq (.region [oM 10 0,oM 11 1,oN 12 10,oF 13 3 12,oS 13 11]) (.region [oM 14 0,oM 15 1,oN 16 14,oF 17 1 16,oS 17 15]))) 18 [])
def a338 : AFn :=
 (.mk (.seq (.region [(oG 4 (.mv (.const (.string (ByteArray.mk #[])))))]) (.seq (.seq (.region [oM 8 0,oN 9 8,oF 10 2 9,oL 11 10,(oG 12 (.bin .neq (oT 11) (oC 0)))]) (.cond (oT 12) (.seq (.region [(oG 4 (.mv (.const (.string
 (ByteArray.mk #[])))))]) .ret) .skip)) (.seq (.seq (.region [oM 13 1,(oG 14 (.bin .lss (oT 13) (oC 0)))]) (.cond (oT 14) (.region [(oG 1 (.mv (oC 0)))]) .skip)) (.seq (.region [oM 16 0,oM 17 0,oN 18 17,oF 19 1 18,oL 20 19,(oG 21
 (.call 336 [oT 16,oT 20])),oM 15 21,oX 22 15 0,oX 23 15 1,oM 5 22,oM 6 23]) (.seq (.seq (.region [oM 24 6,(oG 25 (.bin .eql (oT 24) (oC 0)))]) (.cond (oT 25) (.seq (.region [oM 26 0,oM 27 0,oN 28 27,oF 29 1 28,oL 30 29,(oG 31
 (.call 337 [oT 26,oT 30,oC 6]))]) (.seq (.region [(oG 4 (.mv (.const (.string (ByteArray.mk #[])))))]) .ret)) .skip)) (.seq (.seq (.region [oM 32 5,oM 33 1,(oG 34 (.conv .u64 (oT 33))),(oG 35 (.bin .gtr (oT 32) (oT 34)))]) (.cond
 (oT 35) (.seq (.region [oM 36 0,oM 37 0,oN 38 37,oF 39 1 38,oL 40 39,(oG 41 (.call 337 [oT 36,oT 40,oC 7]))]) (.seq (.region [(oG 4 (.mv (.const (.string (ByteArray.mk #[])))))]) .ret)) .skip)) (.seq (.seq (.draws [(oM 42
 5,0,15),(oM 43 0,0,15),(oN 44 43,0,15),(oF 45 0 44,0,15),(oL 46 45,0,15),((oG 47 (.len (oT 46))),0,15),(oM 48 0,0,15),(oN 49 48,0,15),(oF 50 1 49,0,15),(oL 51 50,0,15),((oG 52 (.bin .sub (oT 47) (oT 51))),0,15),(oM 53 6,0,15),((oG
 54 (.bin .sub (oT 52) (oT 53))),0,15),((oG 55 (.conv .u64 (oT 54))),0,15),((oG 56 (.bin .gtr (oT 42) (oT 55))),0,15)]) (.cond (oT 56) (.seq (.region [oM 57 0,oM 58 0,oN 59 58,oF 60 1 59,oL 61 60,(oG 62 (.call 337 [oT 57,oT 61,oC
 6]))]) (.seq (.region [(oG 4 (.mv (.const (.string (ByteArray.mk #[])))))]) .ret)) .skip)) (.seq (.draws [(oM 63 0,0,22),(oN 64 63,0,22),(oF 65 0 64,0,22),(oL 66 65,0,22),(oM 67 0,0,22),(oN 68 67,0,22),(oF 69 1 68,0,22),(oL 70
 69,0,22),(oM 71 6,0,22),((oG 72 (.bin .add (oT 70) (oT 71))),0,22),(oM 73 0,0,22),(oN 74 73,0,22),(oF 75 1 74,0,22),(oL 76 75,0,22),(oM 77 6,0,22),((oG 78 (.bin .add (oT 76) (oT 77))),0,22),(oM 79 5,0,22),((oG 80 (.conv .i64 (oT
 79))),0,22),((oG 81 (.bin .add (oT 78) (oT 80))),0,22),((oG 82 (.cutSlice 1 (oT 66) (some (oT 72)) (some (oT 81)) none)),0,22),((oG 83 (.textOf (oT 82))),0,22),(oM 7 83,0,22)]) (.seq (.region [oM 84 0,oN 85 84,oF 86 1 85,oL 87
 86,oM 88 6,oM 89 5,(oG 90 (.conv .i64 (oT 89))),(oG 91 (.bin .add (oT 88) (oT 90))),(oG 92 (.bin .add (oT 87) (oT 91))),oN 93 84,oF 94 1 93,oS 94 92]) (.seq (.region [oM 95 7,oM 4 95]) .ret)))))))))) 96 [.tmp 4])
def a339 : AFn :=
 (.mk (.seq (.region [(oG 2 (.mv (.const (.bool false))))]) (.seq (.seq (.region [oM 3 0,oN 4 3,oF 5 2 4,oL 6 5,(oG 7 (.bin .neq (oT 6) (oC 0)))]) (.cond (oT 7) (.seq (.region [(oG 2 (.mv (.const (.bool false))))]) .ret) .skip))
 (.seq (.seq (.draws [(oM 8 0,0,23),(oN 9 8,0,23),(oF 10 1 9,0,23),(oL 11 10,0,23),(oM 12 0,0,23),(oN 13 12,0,23),(oF 14 0 13,0,23),(oL 15 14,0,23),((oG 16 (.len (oT 15))),0,23),((oG 17 (.bin .geq (oT 11) (oT 16))),0,23),(oM 18
 17,0,23),((.mk (some 19) (.mv (oT 0)) (some (18,false))),0,23),((.mk (some 20) (.nilCheck (oT 19)) (some (18,false))),0,23),((.mk (some 21) (.fieldAddr 0 (oT 20)) (some (18,false))),0,23),((.mk (some 22) (.load 1 false (oT 21))
 (some (18,false))),0,23),((.mk (some 23) (.mv (oT 0)) (some (18,false))),0,23),((.mk (some 24) (.nilCheck (oT 23)) (some (18,false))),0,23),((.mk (some 25) (.fieldAddr 1 (oT 24)) (some (18,false))),0,23),((.mk (some 26) (.load 1
 false (oT 25)) (some (18,false))),0,23),((.mk (some 27) (.atSlice 1 (oT 22) (oT 26)) (some (18,false))),0,23),((.mk (some 28) (.load 1 false (oT 27)) (some (18,false))),0,23),((.mk (some 29) (.bin .gtr (oT 28) (.const (.int .u8
 1))) (some (18,false))),0,23),((oG 30 (.pick (oT 18) (.const (.bool true)) (oT 29))),0,23)]) (.cond (oT 30) (.seq (.region [oM 31 0,oM 32 0,oN 33 32,oF 34 1 33,oL 35 34,(oG 36 (.call 337 [oT 31,oT 35,oC 6]))]) (.seq (.region [(oG
 2 (.mv (.const (.bool false))))]) .ret)) .skip)) (.seq (.region [oM 37 0,oN 38 37,oF 39 1 38,oL 40 39,(oG 41 (.bin .add (oT 40) (oC 1))),oN 42 37,oF 43 1 42,oS 43 41]) (.seq (.draws [(oM 44 0,0,13),(oN 45 44,0,13),(oF 46 0
 45,0,13),(oL 47 46,0,13),(oM 48 0,0,13),(oN 49 48,0,13),(oF 50 1 49,0,13),(oL 51 50,0,13),((oG 52 (.bin .sub (oT 51) (oC 1))),0,13),((oG 53 (.atSlice 1 (oT 47) (oT 52))),0,13),(oL 54 53,0,13),((oG 55 (.bin .eql (oT 54) (.const
 (.int .u8 1)))),0,13),(oM 2 55,0,13)]) .ret))))) 56 [.tmp 2])
def a340 : AFn :=
 (.mk (.seq (.region [(oG 2 (.mv (oC 0)))]) (.seq (.region [oM 4 0,(oG 5 (.call 248 [oT 4])),oM 3 5]) (.seq (.seq (.region [oM 6 3,(oG 7 (.bin .rem (oT 6) (.const (.int .u64 2)))),(oG 8 (.bin .eql (oT 7) (.const (.int .u64 1))))])
 (.cond (oT 8) (.seq (.region [oM 9 3,(oG 10 (.bin .quo (oT 9) (.const (.int .u64 2)))),(oG 11 (.conv .i64 (oT 10))),(oG 12 (.bin .sub (.const (.int .i64 (-1))) (oT 11))),oM 2 12]) .ret) .skip)) (.seq (.region [oM 13 3,(oG 14 (.bin
 .quo (oT 13) (.const (.int .u64 2)))),(oG 15 (.conv .i64 (oT 14))),oM 2 15]) .ret)))) 16 [.tmp 2])
def a341 : AFn :=
 (.mk (.seq (.region [(oG 2 (.mv (oC 0)))]) (.seq (.seq (.draws [(oM 3 0,0,17),(oN 4 3,0,17),(oF 5 2 4,0,17),(oL 6 5,0,17),((oG 7 (.bin .eql (oT 6) (oC 0))),0,17),(oM 8 7,0,17),((.mk (some 9) (.mv (oT 0)) (some
 (8,true))),0,17),((.mk (some 10) (.nilCheck (oT 9)) (some (8,true))),0,17),((.mk (some 11) (.fieldAddr 1 (oT 10)) (some (8,true))),0,17),((.mk (some 12) (.load 1 false (oT 11)) (some (8,true))),0,17),((.mk (some 13) (.mv (oT 0))
 (some (8,true))),0,17),((.mk (some 14) (.nilCheck (oT 13)) (some (8,true))),0,17),((.mk (some 15) (.fieldAddr 0 (oT 14)) (some (8,true))),0,17),((.mk (some 16) (.load 1 false (oT 15)) (some (8,true))),0,17),((.mk (some 17) (.len
 (oT 16)) (some (8,true))),0,17),((.mk (some 18) (.bin .lss (oT 12) (oT 17)) (some (8,true))),0,17),((oG 19 (.pick (oT 8) (oT 18) (.const (.bool false)))),0,17)]) (.cond (oT 19) (.region [oM 20 0,oM 21 0,oN 22 21,oF 23 1 22,oL 24
 23,(oG 25 (.call 337 [oT 20,oT 24,oC 6]))]) .skip)) (.seq (.region [oM 26 0,oN 27 26,oF 28 2 27,oL 29 28,oM 2 29]) .ret))) 30 [.tmp 2])
def a342 : AFn :=
 (.mk (.seq (.region [(oG 4 (.mv (oC 0)))]) (.seq (.seq (.region [oM 6 0,(oG 7 (.len (oT 6))),(oG 8 (.mv (oC 0)))]) (.block 0 (.loop (.seq (.region [(oG 9 (.bin .lss (oT 8) (oT 7)))]) (.seq (.cond (oT 9) .skip (.exit 0)) (.seq
 (.block 1 (.seq (.region [oM 10 8,oM 5 10]) (.seq (.region [oM 11 1,oM 12 0,oM 13 5,(oG 14 (.atSlice 3 (oT 12) (oT 13))),(oG 15 (.load 3 true (oT 14))),(oG 16 (.callv (oT 11) [oT 15]))]) (.cond (oT 16) (.seq (.region [oM 17 5,oM 4
 17]) .ret) .skip)))) (.region [(oG 18 (.bin .add (oT 8) (oC 1))),oM 8 18]))))))) (.seq (.region [(oG 4 (.mv (.const (.int .i64 (-1)))))]) .ret))) 19 [.tmp 4])
def a343 : AFn :=
 (.mk (.seq (.region [(oG 6 (.mv (.const (.slice none 0 0))))]) (.seq (.region [oM 8 0,oM 9 1,oM 10 2,oM 11 0,(oG 12 (.len (oT 11))),(oG 13 (.cutSlice 2 (oT 8) (some (oT 9)) (some (oT 10)) (some (oT 12))))]) (.seq (.seq (.region
 [oM 14 1,oM 15 2,(oG 16 (.bin .eql (oT 14) (oT 15)))]) (.cond (oT 16) (.seq (.region [oM 17 0,oM 6 17]) .ret) .skip)) (.seq (.region [oM 18 0,(oG 19 (.len (oT 18))),oM 7 19]) (.seq (.draws [(oM 20 0,0,6),(oM 21 1,0,6),((oG 22
 (.cutSlice 2 (oT 20) none (some (oT 21)) none)),0,6),(oM 23 0,0,6),(oM 24 2,0,6),((oG 25 (.cutSlice 2 (oT 23) (some (oT 24)) none none)),0,6),((oG 26 (.append false 2 24 (oT 22) (oT 25))),0,8),(oM 0 26,7,8)]) (.seq (.region [oM 27
 0,oM 28 0,(oG 29 (.len (oT 28))),oM 30 7,(oG 31 (.cutSlice 2 (oT 27) (some (oT 29)) (some (oT 30)) none)),(oE (.clearS [(.str []),(.int .i64 0)] (oT 31)))]) (.seq (.region [oM 32 0,oM 6 32]) .ret))))))) 33 [.tmp 6])
def a348 : AFn :=
 (.mk (.seq (.region [(oG 2 (.mv (.const .nilIface)))]) (.seq (.seq (.region [oM 3 0,(oG 4 (.bin .lss (oT 3) (oC 0))),oM 5 4,(.mk (some 6) (.mv (oT 0)) (some (5,false))),(.mk (some 7) (.bin .gtr (oT 6) (oC 1048576)) (some
 (5,false))),(oG 8 (.pick (oT 5) (.const (.bool true)) (oT 7)))]) (.cond (oT 8) (.seq (.region [oM 9 0,(oG 10 (.call 90 [oC 2])),(oG 11 (.call 150 [oC 1048576,oT 9,oT 10])),oM 2 11]) .ret) .skip)) (.seq (.region [(oG 2 (.mv (.const
 .nilIface)))]) .ret))) 12 [.tmp 2])
def a349 : AFn :=
 (.mk (.seq (.region [(oG 2 (.mv (oC 0)))]) (.seq (.seq (.region [oM 3 0,(oG 4 (.eq .ptr false (oT 3) (.const (.pointer none))))]) (.cond (oT 4) (.seq (.region [(oG 2 (.mv (oC 0)))]) .ret) .skip)) (.seq (.draws [(oM 5 0,0,9),(oN 6
 5,0,9),(oF 7 0 6,0,9),(oL 8 7,0,9),(oM 9 0,0,5),((oG 10 (.call 145 [oT 9])),0,9),((oG 11 (.bin .sub (oT 8) (oT 10))),6,9),((oG 12 (.minmax true [oT 11,oC 0])),6,9),(oM 2 12,6,9)]) .ret))) 13 [.tmp 2])
def a350 : AFn :=
 (.mk (.seq (.region [(oG 4 (.mv (.const (.slice none 0 0)))),(oG 5 (.mv (oC 0)))]) (.seq (.seq (.region [oM 9 0,(oG 10 (.eq .ptr false (oT 9) (.const (.pointer none))))]) (.cond (oT 10) (.seq (.region [(oG 4 (.mv (.const (.slice
 none 0 0)))),(oG 5 (.mv (oC 1)))]) .ret) .skip)) (.seq (.seq (.region [oM 11 1,(oG 12 (.call 348 [oT 11])),oM 6 12]) (.seq (.region [oM 13 6,(oG 14 (.eq (.iface true) true (oT 13) (.const .nilIface)))]) (.cond (oT 14) (.seq
 (.region [oM 15 6,(oG 16 (.call 67 [oT 15])),(oG 4 (.mv (.const (.slice none 0 0)))),oM 5 16]) .ret) .skip))) (.seq (.region [oM 18 0,oN 19 18,oF 20 1 19,oL 21 20,oM 22 1,(oG 23 (.lookup (.int .i64) (.agg [(.slice none 0 0 0
 0),(.int .i64 0)]) true (oT 21) (oT 22))),oM 17 23,oX 24 17 0,oX 25 17 1,(oG 7 (.alloc [(.slice none 0 0 0 0),(.int .i64 0)])),(oE (.store 2 (oT 7) (oT 24))),oM 8 25]) (.seq (.seq (.region [oM 26 8,(oG 27 (.un .not (oT 26)))])
 (.cond (oT 27) (.seq (.region [(oG 4 (.mv (.const (.slice none 0 0)))),(oG 5 (.mv (oC 3)))]) .ret) .skip)) (.seq (.region [oF 28 0 7,oL 29 28,(oG 30 (.call 85 [oT 29])),oM 4 30,(oG 5 (.mv (oC 0)))]) .ret)))))) 31 [.tmp 4,.tmp 5])
def a351 : AFn :=
 (.mk (.seq (.region [(oG 2 (.mv (.const (.slice none 0 0)))),(oG 3 (.mv (oC 0)))]) (.seq (.region [(oG 4 (.mv (.const (.slice none 0 0))))]) (.seq (.region [(oG 5 (.mv (oC 0)))]) (.block 0 (.loop (.block 1 (.seq (.region [oM 9
 0,oM 10 5,(oG 11 (.cutSlice 1 (oT 9) (some (oT 10)) none none)),(oG 12 (.call 396 [oT 11])),oM 8 12,oX 13 8 0,oX 14 8 1,oM 6 13,oM 7 14]) (.seq (.seq (.region [oM 15 7,(oG 16 (.bin .eql (oT 15) (oC 0)))]) (.cond (oT 16) (.seq
 (.region [oM 17 4,oM 18 5,oM 2 17,oM 3 18]) .ret) .skip)) (.seq (.region [oM 19 4,oM 20 6,(oG 21 (.buildSlice 1 1 [(.slice none 0 0 0 0)] [(0,(1,(oT 20)))])),(oG 22 (.append false 1 24 (oT 19) (oT 21))),oM 4 22]) (.region [oM 23
 5,oM 24 7,(oG 25 (.bin .add (oT 23) (oT 24))),oM 5 25])))))))))) 26 [.tmp 2,.tmp 3])
def a352 : AFn :=
 (.mk (.seq (.region [(oG 4 (.mv (.const (.slice none 0 0)))),(oG 5 (.mv (.const (.bool false))))]) (.seq (.seq (.draws [(oM 7 1,0,13),(oM 8 0,0,13),(oN 9 8,0,13),(oF 10 0 9,0,13),(oL 11 10,0,13),((oG 12 (.len (oT 11))),0,13),(oM
 13 0,0,13),(oN 14 13,0,13),(oF 15 1 14,0,13),(oL 16 15,0,13),((oG 17 (.bin .sub (oT 12) (oT 16))),0,13),((oG 18 (.conv .u64 (oT 17))),0,13),((oG 19 (.bin .gtr (oT 7) (oT 18))),0,13)]) (.cond (oT 19) (.seq (.region [(oG 4 (.mv
 (.const (.slice none 0 0)))),(oG 5 (.mv (.const (.bool false))))]) .ret) .skip)) (.seq (.draws [(oM 20 0,0,17),(oN 21 20,0,17),(oF 22 0 21,0,17),(oL 23 22,0,17),(oM 24 0,0,17),(oN 25 24,0,17),(oF 26 1 25,0,17),(oL 27 26,0,17),(oM
 28 0,0,17),(oN 29 28,0,17),(oF 30 1 29,0,17),(oL 31 30,0,17),(oM 32 1,0,17),((oG 33 (.conv .i64 (oT 32))),0,17),((oG 34 (.bin .add (oT 31) (oT 33))),0,17),((oG 35 (.cutSlice 1 (oT 23) (some (oT 27)) (some (oT 34)) none)),0,17),(oM
 6 35,0,17)]) (.seq (.region [oM 36 0,oN 37 36,oF 38 1 37,oL 39 38,oM 40 1,(oG 41 (.conv .i64 (oT 40))),(oG 42 (.bin .add (oT 39) (oT 41))),oN 43 36,oF 44 1 43,oS 44 42]) (.seq (.region [oM 45 6,oM 4 45,(oG 5 (.mv (.const (.bool
 true))))]) .ret))))) 46 [.tmp 4,.tmp 5])
def a353 : AFn :=
 (.mk (.seq (.region [(oG 4 (.mv (.const (.string (ByteArray.mk #[]))))),(oG 5 (.mv (oC 0)))]) (.seq (.region [oM 10 0,(oG 11 (.call 272 [oT 10])),oM 9 11,oX 12 9 0,oX 13 9 1,oM 6 12,oM 7 13]) (.seq (.seq (.region [oM 14 7,(oG 15
 (.un .not (oT 14)))]) (.cond (oT 15) (.seq (.region [(oG 4 (.mv (.const (.string (ByteArray.mk #[]))))),(oG 5 (.mv (oC 6)))]) .ret) .skip)) (.seq (.seq (.region [oM 16 6,oM 17 1,(oG 18 (.minmax true [oT 17,oC 0])),(oG 19 (.conv
 .u64 (oT 18))),(oG 20 (.bin .gtr (oT 16) (oT 19)))]) (.cond (oT 20) (.seq (.region [(oG 4 (.mv (.const (.string (ByteArray.mk #[]))))),(oG 5 (.mv (oC 7)))]) .ret) .skip)) (.seq (.region [oM 22 0,oM 23 6,(oG 24 (.call 352 [oT 22,oT
 23])),oM 21 24,oX 25 21 0,oX 26 21 1,oM 8 25,oM 7 26]) (.seq (.seq (.region [oM 27 7,(oG 28 (.un .not (oT 27)))]) (.cond (oT 28) (.seq (.region [(oG 4 (.mv (.const (.string (ByteArray.mk #[]))))),(oG 5 (.mv (oC 6)))]) .ret)
 .skip)) (.seq (.region [oM 29 8,(oG 30 (.textOf (oT 29))),oM 4 30,(oG 5 (.mv (oC 0)))]) .ret))))))) 31 [.tmp 4,.tmp 5])
def a354 : AFn :=
 (.mk (.seq (.region [(oG 2 (.mv (oC 0)))]) (.seq (.region [oM 3 0,(oG 4 (.bin .shr (oT 3) (.const (.int .u64 1)))),(oG 5 (.conv .i64 (oT 4))),oM 6 0,(oG 7 (.bin .and (oT 6) (.const (.int .u64 1)))),(oG 8 (.conv .i64 (oT 7))),(oG 9
 (.un .neg (oT 8))),(oG 10 (.bin .xor (oT 5) (oT 9))),oM 2 10]) .ret)) 11 [.tmp 2])
def a372 : AFn :=
 (.mk (.seq (.region [(oG 6 (.mv (oC 0))),(oG 7 (.mv (.const (.bool false))))]) (.seq (.region [oM 12 0,(oG 13 (.len (oT 12))),oM 8 13]) (.seq (.region [oM 14 8,(oG 9 (.mv (oC 0))),oM 10 14]) (.seq (.block 0 (.loop (.seq (.seq
 (.region [oM 15 9,oM 16 10,(oG 17 (.bin .lss (oT 15) (oT 16)))]) (.cond (oT 17) .skip (.exit 0))) (.block 1 (.seq (.region [oM 18 9,oM 19 10,(oG 20 (.bin .add (oT 18) (oT 19))),(oG 21 (.conv .u64 (oT 20))),(oG 22 (.bin .shr (oT
 21) (.const (.int .u64 1)))),(oG 23 (.conv .i64 (oT 22))),oM 11 23]) (.seq (.region [oM 24 2,oM 25 0,oM 26 11,(oG 27 (.atSlice 2 (oT 25) (oT 26))),(oG 28 (.load 2 true (oT 27))),oM 29 1,(oG 30 (.callv (oT 24) [oT 28,oT 29])),(oG
 31 (.bin .lss (oT 30) (oC 0)))]) (.cond (oT 31) (.region [oM 32 11,(oG 33 (.bin .add (oT 32) (oC 1))),oM 9 33]) (.region [oM 34 11,oM 10 34])))))))) (.seq (.region [oM 35 9,oM 36 9,oM 37 8,(oG 38 (.bin .lss (oT 36) (oT 37))),oM 39
 38,(.mk (some 40) (.mv (oT 2)) (some (39,true))),(.mk (some 41) (.mv (oT 0)) (some (39,true))),(.mk (some 42) (.mv (oT 9)) (some (39,true))),(.mk (some 43) (.atSlice 2 (oT 41) (oT 42)) (some (39,true))),(.mk (some 44) (.load 2
 true (oT 43)) (some (39,true))),(.mk (some 45) (.mv (oT 1)) (some (39,true))),(.mk (some 46) (.callv (oT 40) [oT 44,oT 45]) (some (39,true))),(.mk (some 47) (.bin .eql (oT 46) (oC 0)) (some (39,true))),(oG 48 (.pick (oT 39) (oT
 47) (.const (.bool false)))),oM 6 35,oM 7 48]) .ret))))) 49 [.tmp 6,.tmp 7])
def a373 : AFn :=
 (.mk (.seq (.region [(oG 2 (.box (oT 0))),(oG 4 (.mv (oC 0)))]) (.seq (.region [oF 5 0 2,oL 6 5,oM 7 1,(oG 8 (.call 374 [oT 6,oT 7])),oM 4 8]) .ret)) 9 [.tmp 4])
def a374 : AFn :=
 (.mk (.seq (.region [(oG 4 (.mv (oC 0)))]) (.seq (.region [oM 5 0,oM 6 1,(oG 7 (.call 401 [oT 5,oT 6])),oM 4 7]) .ret)) 8 [.tmp 4])
def a376 : AFn :=
 (.mk (.region [oM 4 0,oM 5 0,(oG 6 (.len (oT 5))),oM 7 1,(oG 8 (.bin .sub (oT 6) (oT 7))),(oG 9 (.call 402 [oT 4,oT 8]))]) 10 [])
def a396 : AFn :=
 (.mk (.seq (.region [(oG 2 (.mv (.const (.slice none 0 0)))),(oG 3 (.mv (oC 0)))]) (.seq (.seq (.region [oM 7 0,(oG 8 (.len (oT 7))),(oG 9 (.bin .lss (oT 8) (oC 7))),oM 10 9,(.mk (some 11) (.mv (oT 0)) (some (10,false))),(.mk
 (some 12) (.atSlice 1 (oT 11) (oC 0)) (some (10,false))),(.mk (some 13) (.load 1 false (oT 12)) (some (10,false))),(.mk (some 14) (.bin .neq (oT 13) (.const (.int .u8 167))) (some (10,false))),(oG 15 (.pick (oT 10) (.const (.bool
 true)) (oT 14)))]) (.cond (oT 15) (.seq (.region [(oG 2 (.mv (.const (.slice none 0 0)))),(oG 3 (.mv (oC 0)))]) .ret) .skip)) (.seq (.draws [(oM 16 0,0,11),((oG 17 (.atSlice 1 (oT 16) (oC 1))),0,11),(oL 18 17,0,11),((oG 19 (.conv
 .i64 (oT 18))),0,11),((oG 20 (.bin .shl (oT 19) (.const (.int .u64 8)))),0,11),(oM 21 0,0,11),((oG 22 (.atSlice 1 (oT 21) (oC 2))),0,11),(oL 23 22,0,11),((oG 24 (.conv .i64 (oT 23))),0,11),((oG 25 (.bin .or (oT 20) (oT
 24))),0,11),(oM 4 25,0,11)]) (.seq (.seq (.region [oM 26 4,(oG 27 (.bin .gtr (oT 26) (oC 16384))),oM 28 27,(.mk (some 29) (.mv (oT 4)) (some (28,false))),(.mk (some 30) (.mv (oT 0)) (some (28,false))),(.mk (some 31) (.len (oT 30))
 (some (28,false))),(.mk (some 32) (.bin .sub (oT 31) (oC 3)) (some (28,false))),(.mk (some 33) (.bin .sub (oT 32) (oC 4)) (some (28,false))),(.mk (some 34) (.bin .gtr (oT 29) (oT 33)) (some (28,false))),(oG 35 (.pick (oT 28)
 (.const (.bool true)) (oT 34)))]) (.cond (oT 35) (.seq (.region [(oG 2 (.mv (.const (.slice none 0 0)))),(oG 3 (.mv (oC 0)))]) .ret) .skip)) (.seq (.region [oM 36 4,(oG 37 (.bin .add (oC 3) (oT 36))),oM 5 37]) (.seq (.region [oM
 38 0,oM 39 5,(oG 40 (.cutSlice 1 (oT 38) none (some (oT 39)) none)),(oG 41 (.buildSlice 1 1 [(.slice none 0 0 0 0)] [(0,(1,(oT 40)))])),(oG 42 (.call 265 [oT 41])),oM 6 42]) (.seq (.seq (.region [oM 43 0,oM 44 5,oM 45 5,(oG 46
 (.bin .add (oT 45) (oC 4))),(oG 47 (.cutSlice 1 (oT 43) (some (oT 44)) (some (oT 46)) none)),oM 48 6,(oG 49 (.bin .shr (oT 48) (.const (.int .u64 24)))),(oG 50 (.conv .u8 (oT 49))),oM 51 6,(oG 52 (.bin .shr (oT 51) (.const (.int
 .u64 16)))),(oG 53 (.conv .u8 (oT 52))),oM 54 6,(oG 55 (.bin .shr (oT 54) (.const (.int .u64 8)))),(oG 56 (.conv .u8 (oT 55))),oM 57 6,(oG 58 (.conv .u8 (oT 57))),(oG 59 (.buildSlice 4 1 [(.int .u8 0),(.int .u8 0),(.int .u8
 0),(.int .u8 0)] [(0,(1,(oT 50))),(1,(1,(oT 53))),(2,(1,(oT 56))),(3,(1,(oT 58)))])),(oG 60 (.call 409 [oT 47,oT 59])),(oG 61 (.un .not (oT 60)))]) (.cond (oT 61) (.seq (.region [(oG 2 (.mv (.const (.slice none 0 0)))),(oG 3 (.mv
 (oC 0)))]) .ret) .skip)) (.seq (.region [oM 62 0,oM 63 5,(oG 64 (.cutSlice 1 (oT 62) (some (oC 3)) (some (oT 63)) none)),(oG 65 (.call 85 [oT 64])),oM 66 5,(oG 67 (.bin .add (oT 66) (oC 4))),oM 2 65,oM 3 67]) .ret)))))))) 68 [.tmp
 2,.tmp 3])
def a401 : AFn :=
 (.mk (.seq (.region [(oG 4 (.mv (oC 0)))]) (.seq (.region [oM 5 0,oM 6 1,(oG 7 (.call 411 [oT 5,oT 6])),oM 4 7]) .ret)) 8 [.tmp 4])
def a402 : AFn :=
 (.mk (.seq (.region [oM 4 0,oM 5 1,(oG 6 (.cutSlice 2 (oT 4) none (some (oT 5)) none)),(oG 7 (.call 412 [oT 6]))]) (.seq (.region [oM 8 0,oM 9 1,(oG 10 (.cutSlice 2 (oT 8) (some (oT 9)) none none)),(oG 11 (.call 412 [oT 10]))])
 (.region [oM 12 0,(oG 13 (.call 412 [oT 12]))]))) 14 [])
def a409 : AFn :=
 (.mk (.seq (.region [(oG 4 (.mv (.const (.bool false))))]) (.seq (.region [oM 5 0,(oG 6 (.textOf (oT 5))),oM 7 1,(oG 8 (.textOf (oT 7))),(oG 9 (.bin .eql (oT 6) (oT 8))),oM 4 9]) .ret)) 10 [.tmp 4])
def a412 : AFn :=
 (.mk (.seq (.region [oM 4 0,(oG 5 (.len (oT 4))),(oG 6 (.bin .sub (oT 5) (oC 1))),(oG 2 (.mv (oC 0))),oM 3 6]) (.block 0 (.loop (.seq (.seq (.region [oM 7 2,oM 8 3,(oG 9 (.bin .lss (oT 7) (oT 8)))]) (.cond (oT 9) .skip (.exit 0)))
 (.seq (.block 1 (.draws [(oM 14 0,0,13),(oM 15 2,0,13),(oM 16 0,0,15),(oM 17 3,0,15),(oM 18 0,0,13),(oM 19 3,0,13),((oG 20 (.atSlice 2 (oT 18) (oT 19))),0,13),((oG 21 (.load 2 true (oT 20))),0,13),(oM 22 0,0,13),(oM 23
 2,0,13),((oG 24 (.atSlice 2 (oT 22) (oT 23))),0,13),((oG 25 (.load 2 true (oT 24))),0,13),((oG 26 (.atSlice 2 (oT 14) (oT 15))),0,13),((oE (.store 2 (oT 26) (oT 21))),0,15),((oG 27 (.atSlice 2 (oT 16) (oT 17))),14,15),((oE (.store
 2 (oT 27) (oT 25))),14,16)])) (.region [oM 10 2,(oG 11 (.bin .add (oT 10) (oC 1))),oM 12 3,(oG 13 (.bin .sub (oT 12) (oC 1))),oM 2 11,oM 3 13])))))) 28 [])
def fns : Nat → Option AFn
  | 3 => some a3
  | 4 => some a4
  | 14 => some a14
  | 15 => some a15
  | 16 => some a16
  | 17 => some a17
  | 18 => some a18
  | 19 => some a19
  | 20 => some a20
  | 21 => some a21
  | 22 => some a22
  | 23 => some a23
  | 24 => some a24
  | 25 => some a25
  | 26 => some a26
  | 27 => some a27
  | 63 => some a63
  | 64 => some a64
  | 65 => some a65
  | 66 => some a66
  | 68 => some a68
  | 69 => some a69
  | 70 => some a70
  | 71 => some a71
  | 72 => some a72
  | 73 => some a73
  | 74 => some a74
  | 75 => some a75
  | 76 => some a76
  | 77 => some a77
  | 78 => some a78
  | 79 => some a79
  | 80 => some a80
  | 81 => some a81
  | 82 => some a82
  | 83 => some a83
  | 84 => some a84
  | 85 => some a85
  | 90 => some a90
  | 108 => some a108
  | 119 => some a119
  | 120 => some a120
  | 121 => some a121
  | 145 => some a145
  | 147 => some a147
  | 148 => some a148
  | 149 => some a149
  | 150 => some a150
  | 151 => some a151
  | 152 => some a152
  | 154 => some a154
  | 155 => some a155
  | 156 => some a156
  | 157 => some a157
  | 158 => some a158
  | 159 => some a159
  | 160 => some a160
  | 161 => some a161
  | 162 => some a162
  | 163 => some a163
  | 164 => some a164
  | 165 => some a165
  | 166 => some a166
  | 167 => some a167
  | 168 => some a168
  | 169 => some a169
  | 170 => some a170
  | 171 => some a171
  | 172 => some a172
  | 198 => some a198
  | 199 => some a199
  | 202 => some a202
  | 214 => some a214
  | 215 => some a215
  | 216 => some a216
  | 244 => some a244
  | 245 => some a245
  | 246 => some a246
  | 247 => some a247
  | 248 => some a248
  | 249 => some a249
  | 250 => some a250
  | 251 => some a251
  | 252 => some a252
  | 253 => some a253
  | 258 => some a258
  | 262 => some a262
  | 263 => some a263
  | 264 => some a264
  | 265 => some a265
  | 266 => some a266
  | 267 => some a267
  | 268 => some a268
  | 269 => some a269
  | 270 => some a270
  | 271 => some a271
  | 272 => some a272
  | 273 => some a273
  | 274 => some a274
  | 275 => some a275
  | 276 => some a276
  | 277 => some a277
  | 297 => some a297
  | 298 => some a298
  | 331 => some a331
  | 332 => some a332
  | 333 => some a333
  | 334 => some a334
  | 335 => some a335
  | 336 => some a336
  | 337 => some a337
  | 338 => some a338
  | 339 => some a339
  | 340 => some a340
  | 341 => some a341
  | 342 => some a342
  | 343 => some a343
  | 348 => some a348
  | 349 => some a349
  | 350 => some a350
  | 351 => some a351
  | 352 => some a352
  | 353 => some a353
  | 354 => some a354
  | 372 => some a372
  | 373 => some a373
  | 374 => some a374
  | 376 => some a376
  | 396 => some a396
  | 401 => some a401
  | 402 => some a402
  | 409 => some a409
  | 412 => some a412
  | _ => none
end Go.Proofs.YtlaoookdegmnnaaGreatDoor
