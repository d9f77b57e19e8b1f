/- The functions of the seat as the abstract machine's code: no program in sight. -/
import Derived.Test.YtlaoookdegmnnaaGreatDoorAmDefs
set_option maxRecDepth 100000
namespace Go.Proofs.YtlaoookdegmnnaaGreatDoor
open Go.AM
abbrev oM (d n : Nat) : AOper := .mk (some d) (.mv (.tmp n)) none
abbrev oG (d : Nat) (x : AOp) : AOper := .mk (some d) x none
abbrev oC (n : Int) : Operand := .const (.int .i64 n)
abbrev oT (n : Nat) : Operand := .tmp n
abbrev oS (a x : Nat) : AOper := .mk none (.store 1 (.tmp a) (.tmp x)) none
abbrev oN (d n : Nat) : AOper := .mk (some d) (.nilCheck (.tmp n)) none
abbrev oF (d k n : Nat) : AOper := .mk (some d) (.fieldAddr k (.tmp n)) none
abbrev oL (d n : Nat) : AOper := .mk (some d) (.load 1 false (.tmp n)) none
abbrev oX (d n k : Nat) : AOper := .mk (some d) (.extract (.tmp n) k) none
abbrev oE (x : AOp) : AOper := .mk none x none
def a3 : AFn :=
 (.mk (.seq (.region [(oG 4 (.mv (.const (.bool false))))]) (.seq (.region [(oG 12 (.call 14 [oC 200000,oC 100])),oM 5 12]) (.seq (.seq (.region [oM 13 5,oN 14 13,oF 15 1 14,oL 16 15,(oG 17 (.eq .ptr false (oT 16) (.const (.pointer
 none))))]) (.cond (oT 17) (.seq (.region [(oG 4 (.mv (.const (.bool false))))]) .ret) .skip)) (.seq (.region [oM 18 0,(oG 19 (.bin .rem (oT 18) (oC 8))),(oG 20 (.bin .add (oC 256) (oT 19))),oM 6 20]) (.seq (.region [oM 21 1,(oG 22
 (.bin .rem (oT 21) (oC 60))),oM 1 22]) (.seq (.seq (.region [oM 23 1,(oG 24 (.bin .lss (oT 23) (oC 0)))]) (.cond (oT 24) (.region [oM 25 1,(oG 26 (.un .neg (oT 25))),oM 1 26]) .skip)) (.seq (.region [(oG 7 (.mv (.const (.slice
 none 0 0))))]) (.seq (.seq (.region [(oG 8 (.mv (oC 0)))]) (.block 0 (.loop (.seq (.seq (.region [oM 27 8,oM 28 6,(oG 29 (.bin .lss (oT 27) (oT 28)))]) (.cond (oT 29) .skip (.exit 0))) (.seq (.block 1 (.region [oM 32 7,oM 33 8,(oG
 34 (.bin .quo (oT 33) (oC 26))),(oG 35 (.conv .u8 (oT 34))),(oG 36 (.bin .add (.const (.int .u8 97)) (oT 35))),oM 37 8,(oG 38 (.bin .rem (oT 37) (oC 26))),(oG 39 (.conv .u8 (oT 38))),(oG 40 (.bin .add (.const (.int .u8 97)) (oT
 39))),(oG 41 (.buildSlice 2 1 [(.int .u8 0),(.int .u8 0)] [(0,(1,(oT 36))),(1,(1,(oT 40)))])),(oG 42 (.textOf (oT 41))),oM 43 8,(oG 44 (.build [(.str []),(.int .i64 0),(.bool false)] [(0,(1,(oT 42))),(1,(1,(oT 43))),(2,(1,(.const
 (.bool true))))])),(oG 45 (.buildSlice 1 3 [(.str []),(.int .i64 0),(.bool false)] [(0,(3,(oT 44)))])),(oG 46 (.append false 3 32 (oT 32) (oT 45))),oM 7 46])) (.region [oM 30 8,(oG 31 (.bin .add (oT 30) (oC 1))),oM 8 31]))))))
 (.seq (.region [(oG 9 (.mv (oC 0)))]) (.seq (.block 2 (.loop (.seq (.seq (.region [oM 47 7,(oG 48 (.len (oT 47))),(oG 49 (.bin .gtr (oT 48) (oC 0)))]) (.cond (oT 49) .skip (.exit 2))) (.block 3 (.seq (.region [oM 50 1,(oG 51 (.bin
 .add (oT 50) (oC 10))),oM 10 51]) (.seq (.seq (.region [oM 52 10,oM 53 7,(oG 54 (.len (oT 53))),(oG 55 (.bin .gtr (oT 52) (oT 54)))]) (.cond (oT 55) (.region [oM 56 7,(oG 57 (.len (oT 56))),oM 10 57]) .skip)) (.seq (.draws [(oM 58
 5,0,7),(oN 59 58,0,7),(oF 60 1 59,0,7),(oL 61 60,0,7),(oM 62 7,0,7),(oM 63 10,0,7),((oG 64 (.cutSlice 3 (oT 62) none (some (oT 63)) none)),0,7),((oG 65 (.call 15 [oT 61,oC 1,oT 64])),0,9),(oM 11 65,8,9)]) (.seq (.seq (.region [oM
 66 11,(oG 67 (.bin .neq (oT 66) (oC 0)))]) (.cond (oT 67) (.region [oM 68 11,oM 9 68]) .skip)) (.region [oM 69 7,oM 70 10,(oG 71 (.cutSlice 3 (oT 69) (some (oT 70)) none none)),oM 7 71]))))))))) (.seq (.region [oM 72 9,(oG 73
 (.bin .eql (oT 72) (oC 5))),oM 74 6,(oG 75 (.bin .gtr (oT 74) (oC 256))),(oG 76 (.eqb false (oT 73) (oT 75))),oM 77 76,(.mk (some 78) (.mv (oT 9)) (some (77,true))),(.mk (some 79) (.bin .eql (oT 78) (oC 0)) (some (77,true))),(.mk
 (some 80) (.mv (oT 6)) (some (77,true))),(.mk (some 81) (.bin .leq (oT 80) (oC 256)) (some (77,true))),(.mk (some 82) (.eqb false (oT 79) (oT 81)) (some (77,true))),(oG 83 (.pick (oT 77) (oT 82) (.const (.bool false)))),oM 84
 83,(.mk (some 85) (.mv (oT 5)) (some (84,true))),(.mk (some 86) (.nilCheck (oT 85)) (some (84,true))),(.mk (some 87) (.fieldAddr 1 (oT 86)) (some (84,true))),(.mk (some 88) (.load 1 false (oT 87)) (some (84,true))),(.mk (some 89)
 (.call 16 [oT 88]) (some (84,true))),(.mk (some 90) (.bin .leq (oT 89) (oC 256)) (some (84,true))),(oG 91 (.pick (oT 84) (oT 90) (.const (.bool false)))),oM 92 91,(.mk (some 93) (.call 17 []) (some (92,true))),(oG 94 (.pick (oT
 92) (oT 93) (.const (.bool false)))),oM 4 94]) .ret))))))))))) 95 [.tmp 4])
def a4 : AFn :=
 (.mk (.seq (.region [(oG 8 (.mv (.const (.bool false))))]) (.seq (.region [oM 19 0,(oG 20 (.call 14 [oC 60000,oT 19])),oM 9 20]) (.seq (.seq (.region [oM 21 9,oN 22 21,oF 23 1 22,oL 24 23,(oG 25 (.eq .ptr false (oT 24) (.const
 (.pointer none))))]) (.cond (oT 25) (.seq (.region [(oG 8 (.mv (.const (.bool false))))]) .ret) .skip)) (.seq (.seq (.region [oM 26 3,(oG 27 (.len (oT 26))),(oG 28 (.bin .gtr (oT 27) (oC 20)))]) (.cond (oT 28) (.region [oM 29
 3,(oG 30 (.cutSlice 1 (oT 29) none (some (oC 20)) none)),oM 3 30]) .skip)) (.seq (.region [oM 31 9,oN 32 31,oF 33 0 32,oL 34 33,oM 35 2,(oG 36 (.call 18 [oT 34,oT 35]))]) (.seq (.region [(oG 10 (.mv (.const (.slice none 0
 0)))),(oG 11 (.mv (.const (.slice none 0 0))))]) (.seq (.seq (.region [oM 37 1,(oG 38 (.len (oT 37))),(oG 39 (.mv (oC 0)))]) (.block 0 (.loop (.seq (.region [(oG 40 (.bin .lss (oT 39) (oT 38)))]) (.seq (.cond (oT 40) .skip (.exit
 0)) (.seq (.block 1 (.seq (.region [oM 41 39,(oG 42 (.atSlice 6 (oT 37) (oT 39))),(oG 43 (.load 6 true (oT 42))),(oG 13 (.alloc [(.int .i64 0),(.int .i64 0),(.slice none 0 0 0 0),(.str []),(.int .i64 0),(.slice none 0 0 0 0)])),oM
 12 41,(oE (.store 6 (oT 13) (oT 43)))]) (.seq (.seq (.region [oM 44 12,(oG 45 (.bin .geq (oT 44) (oC 40))),oM 46 45,(.mk (some 47) (.mv (oT 9)) (some (46,false))),(.mk (some 48) (.nilCheck (oT 47)) (some (46,false))),(.mk (some
 49) (.fieldAddr 0 (oT 48)) (some (46,false))),(.mk (some 50) (.load 1 false (oT 49)) (some (46,false))),(.mk (some 51) (.call 19 [oT 50]) (some (46,false))),(oG 52 (.pick (oT 46) (.const (.bool true)) (oT 51)))]) (.cond (oT 52)
 (.exit 0) .skip)) (.seq (.region [oF 53 0 13,oL 54 53]) (.block 2 (.seq (.seq (.region [(oG 56 (.bin .eql (oT 54) (oC 0))),oM 55 56]) (.cond (oT 55) .skip (.seq (.region [(oG 57 (.bin .eql (oT 54) (oC 1))),oM 55 57]) (.cond (oT
 55) .skip (.seq (.region [(oG 58 (.bin .eql (oT 54) (oC 2))),oM 55 58]) (.cond (oT 55) .skip (.seq (.region [(oG 59 (.bin .eql (oT 54) (oC 3))),oM 55 59]) (.cond (oT 55) .skip (.region [(oG 60 (.bin .eql (oT 54) (oC 4))),oM 55
 60]))))))))) (.cond (oT 55) (.seq (.region [oM 62 10,(oG 63 (.load 6 true (oT 13))),(oG 64 (.call 21 [oT 63])),(oG 65 (.call 20 [oT 62,oT 64])),oM 61 65,oX 66 61 0,oX 67 61 1,oM 14 66,oM 15 67]) (.seq (.draws [(oM 68 9,0,9),(oN 69
 68,0,9),(oF 70 1 69,0,9),(oL 71 70,0,9),(oF 72 1 13,0,9),(oL 73 72,0,9),((oG 74 (.load 6 true (oT 13))),0,7),((oG 75 (.call 21 [oT 74])),0,8),((oG 76 (.call 22 [oT 75])),8,9),((oG 77 (.call 15 [oT 71,oT 73,oT 76])),9,11),(oM 16
 77,10,11)]) (.seq (.seq (.region [oM 78 16,(oG 79 (.bin .eql (oT 78) (oC 0)))]) (.cond (oT 79) (.region [oM 80 14,oM 10 80]) .skip)) (.region [oM 81 14,oM 11 81])))) (.seq (.region [(oG 83 (.bin .eql (oT 54) (oC 5))),oM 82 83])
 (.cond (oT 82) (.seq (.region [oM 84 9,oN 85 84,oF 86 1 85,oL 87 86,(oG 88 (.call 23 [oT 87]))]) (.region [oM 89 10,oM 11 89])) .skip))))))))) (.region [(oG 90 (.bin .add (oT 39) (oC 1))),oM 39 90]))))))) (.seq (.draws [(oM 92
 9,0,5),(oN 93 92,0,5),(oF 94 0 93,0,5),(oL 95 94,0,5),(oM 96 3,0,5),((oG 97 (.call 25 [oT 95,oT 96])),0,16),(oM 98 9,0,16),(oN 99 98,0,16),(oF 100 2 99,0,16),(oL 101 100,0,16),(oN 102 101,0,16),(oF 103 0 102,0,16),(oL 104
 103,0,16),(oN 105 104,0,16),(oF 106 1 105,0,16),(oL 107 106,0,16),((oG 108 (.call 24 [oT 97,oT 107])),6,22),(oM 91 108,17,22),(oX 109 91 0,17,22),(oX 110 91 1,17,22),(oM 17 109,17,22),(oM 18 110,17,22)]) (.seq (.seq (.region [oM
 111 18,(oG 112 (.bin .neq (oT 111) (oC 0))),oM 113 112,(.mk (some 114) (.mv (oT 17)) (some (113,false))),(.mk (some 115) (.eq .ptr false (oT 114) (.const (.pointer none))) (some (113,false))),(oG 116 (.pick (oT 113) (.const (.bool
 true)) (oT 115)))]) (.cond (oT 116) (.seq (.region [(oG 8 (.mv (.const (.bool false))))]) .ret) .skip)) (.seq (.region [oM 117 17,(oG 118 (.call 27 [oT 117])),oM 119 10,(oG 120 (.call 26 [oT 118,oT 119])),oM 121 120,(.mk (some
 122) (.mv (oT 9)) (some (121,false))),(.mk (some 123) (.nilCheck (oT 122)) (some (121,false))),(.mk (some 124) (.fieldAddr 0 (oT 123)) (some (121,false))),(.mk (some 125) (.load 1 false (oT 124)) (some (121,false))),(.mk (some
 126) (.call 19 [oT 125]) (some (121,false))),(.mk (some 127) (.mv (oT 126)) (some (121,false))),(.mk (some 128) (.mv (oT 17)) (some (127,true))),(.mk (some 129) (.call 27 [oT 128]) (some (127,true))),(.mk (some 130) (.mv (oT 11))
 (some (127,true))),(.mk (some 131) (.call 26 [oT 129,oT 130]) (some (127,true))),(.mk (some 132) (.pick (oT 127) (oT 131) (.const (.bool false))) (some (121,false))),(oG 133 (.pick (oT 121) (.const (.bool true)) (oT 132))),oM 134
 133,(.mk (some 135) (.call 17 []) (some (134,true))),(oG 136 (.pick (oT 134) (oT 135) (.const (.bool false)))),oM 8 136]) .ret)))))))))) 137 [.tmp 8])
def a14 : AFn :=
 (.mk (.seq (.region [(oG 4 (.mv (.const (.pointer none))))]) (.seq (.region [oM 8 1,(oG 9 (.bin .rem (oT 8) (oC 300))),oM 1 9]) (.seq (.seq (.region [oM 10 1,(oG 11 (.bin .lss (oT 10) (oC 0)))]) (.cond (oT 11) (.region [oM 12
 1,(oG 13 (.un .neg (oT 12))),oM 1 13]) .skip)) (.seq (.region [(oG 14 (.build [(.ptr none),(.ptr none),(.ptr none)] [])),(oG 15 (.box (oT 14))),oM 5 15]) (.seq (.region [oM 17 5,oM 18 0,(oG 19 (.call 63 [oT 18])),oM 16 19,oX 20 16
 0,oX 21 16 1,oN 22 17,oF 23 0 22,oS 23 20]) (.seq (.region [oM 25 5,oN 26 25,oF 27 0 26,oL 28 27,oM 29 1,(oG 30 (.bin .add (oT 29) (oC 40))),(oG 31 (.call 24 [oT 28,oT 30])),oM 24 31,oX 32 24 0,oX 33 24 1,oM 6 32,oM 7 33]) (.seq
 (.region [oM 34 5,oM 35 6,oN 36 34,oF 37 1 36,oS 37 35]) (.seq (.region [oM 39 5,oM 40 0,(oG 41 (.call 65 [oT 40])),oM 42 1,(oG 43 (.bin .add (oT 42) (oC 40))),(oG 44 (.call 64 [oT 41,oT 43])),oM 38 44,oX 45 38 0,oX 46 38 1,oN 47
 39,oF 48 2 47,oS 48 45]) (.seq (.region [oM 49 5,oM 4 49]) .ret))))))))) 50 [.tmp 4])
def a15 : AFn :=
 (.mk (.seq (.region [(oG 6 (.mv (oC 0)))]) (.seq (.seq (.region [oM 9 0,(oG 10 (.eq .ptr false (oT 9) (.const (.pointer none))))]) (.cond (oT 10) (.seq (.region [(oG 6 (.mv (oC 1)))]) .ret) .skip)) (.seq (.seq (.region [oM 11 0,oM
 12 1,oM 13 2,(oG 14 (.call 66 [oT 11,oT 12,oT 13])),oM 7 14]) (.seq (.region [oM 15 7,(oG 16 (.eq (.iface true) true (oT 15) (.const .nilIface)))]) (.cond (oT 16) (.seq (.region [oM 17 7,(oG 18 (.call 67 [oT 17])),oM 6 18]) .ret)
 .skip))) (.seq (.seq (.draws [(oM 19 0,0,8),(oN 20 19,0,8),(oF 21 0 20,0,8),(oL 22 21,0,8),(oM 23 1,0,6),(oM 24 2,0,6),((oG 25 (.call 69 [oT 23,oT 24])),0,7),((oG 26 (.buildSlice 1 1 [(.slice none 0 0 0 0)] [(0,(1,(oT
 25)))])),7,8),((oG 27 (.call 68 [oT 22,oT 26])),8,10),(oM 8 27,9,10)]) (.seq (.region [oM 28 8,(oG 29 (.bin .neq (oT 28) (oC 0)))]) (.cond (oT 29) (.seq (.region [oM 30 8,oM 6 30]) .ret) .skip))) (.seq (.region [oM 31 0,oN 32
 31,oF 33 4 32,oL 34 33,(oG 35 (.bin .add (oT 34) (oC 1))),oN 36 31,oF 37 4 36,oS 37 35]) (.seq (.region [oM 38 0,oM 39 0,oN 40 39,oF 41 4 40,oL 42 41,oM 43 1,oM 44 2,(oG 45 (.call 70 [oT 38,oT 42,oT 43,oT 44]))]) (.seq (.region
 [(oG 6 (.mv (oC 0)))]) .ret))))))) 46 [.tmp 6])
def a16 : AFn :=
 (.mk (.seq (.region [(oG 2 (.mv (oC 0)))]) (.seq (.region [oM 3 0,(oG 4 (.call 71 [oT 3])),oM 2 4]) .ret)) 5 [.tmp 2])
def a17 : AFn :=
 (.mk (.seq (.region [(oG 0 (.mv (.const (.bool false))))]) (.seq (.region [(oG 10 (.call 63 [oC 1000])),oM 9 10,oX 11 9 0,oX 12 9 1,oM 1 11,oM 2 12]) (.seq (.region [oM 14 1,(oG 15 (.call 24 [oT 14,oC 100])),oM 13 15,oX 16 13 0,oX
 17 13 1,oM 3 16,oM 4 17]) (.seq (.seq (.region [oM 18 4,(oG 19 (.bin .neq (oT 18) (oC 0))),oM 20 19,(.mk (some 21) (.mv (oT 3)) (some (20,false))),(.mk (some 22) (.eq .ptr false (oT 21) (.const (.pointer none))) (some
 (20,false))),(oG 23 (.pick (oT 20) (.const (.bool true)) (oT 22)))]) (.cond (oT 23) (.seq (.region [(oG 0 (.mv (.const (.bool false))))]) .ret) .skip)) (.seq (.region [oM 24 3,(oG 25 (.build [(.str []),(.int .i64 0),(.bool false)]
 [(0,(1,(.const (.string (ByteArray.mk #[120]))))),(1,(1,(oC 5))),(2,(1,(.const (.bool true))))])),(oG 26 (.build [(.str []),(.int .i64 0),(.bool false)] [(0,(1,(.const (.string (ByteArray.mk #[121]))))),(1,(1,(oC
 6))),(2,(1,(.const (.bool true))))])),(oG 27 (.buildSlice 2 3 [(.str []),(.int .i64 0),(.bool false),(.str []),(.int .i64 0),(.bool false)] [(0,(3,(oT 25))),(3,(3,(oT 26)))])),(oG 28 (.call 15 [oT 24,oC 1,oT 27])),oM 5 28]) (.seq
 (.region [oM 29 3,(oG 30 (.build [(.str []),(.int .i64 0),(.bool false)] [(0,(1,(.const (.string (ByteArray.mk #[120])))))])),(oG 31 (.buildSlice 1 3 [(.str []),(.int .i64 0),(.bool false)] [(0,(3,(oT 30)))])),(oG 32 (.call 15 [oT
 29,oC 2,oT 31])),oM 6 32]) (.seq (.region [oM 33 3,(oG 34 (.call 27 [oT 33])),oM 7 34]) (.seq (.seq (.region [oM 35 5,(oG 36 (.bin .neq (oT 35) (oC 0))),oM 37 36,(.mk (some 38) (.mv (oT 6)) (some (37,false))),(.mk (some 39) (.bin
 .neq (oT 38) (oC 0)) (some (37,false))),(oG 40 (.pick (oT 37) (.const (.bool true)) (oT 39))),oM 41 40,(.mk (some 42) (.mv (oT 7)) (some (41,false))),(.mk (some 43) (.len (oT 42)) (some (41,false))),(.mk (some 44) (.bin .neq (oT
 43) (oC 1)) (some (41,false))),(oG 45 (.pick (oT 41) (.const (.bool true)) (oT 44))),oM 46 45,(.mk (some 47) (.mv (oT 7)) (some (46,false))),(.mk (some 48) (.atSlice 2 (oT 47) (oC 0)) (some (46,false))),(.mk (some 49) (.fieldAddr
 1 (oT 48)) (some (46,false))),(.mk (some 50) (.load 1 false (oT 49)) (some (46,false))),(.mk (some 51) (.bin .neq (oT 50) (oC 6)) (some (46,false))),(oG 52 (.pick (oT 46) (.const (.bool true)) (oT 51))),oM 53 52,(.mk (some 54)
 (.mv (oT 3)) (some (53,false))),(.mk (some 55) (.call 71 [oT 54]) (some (53,false))),(.mk (some 56) (.bin .neq (oT 55) (oC 1)) (some (53,false))),(oG 57 (.pick (oT 53) (.const (.bool true)) (oT 56))),oM 58 57,(.mk (some 59) (.mv
 (oT 3)) (some (58,false))),(.mk (some 60) (.call 72 [oT 59]) (some (58,false))),(.mk (some 61) (.bin .neq (oT 60) (oC 2)) (some (58,false))),(oG 62 (.pick (oT 58) (.const (.bool true)) (oT 61))),oM 63 62,(.mk (some 64) (.mv (oT
 3)) (some (63,false))),(.mk (some 65) (.call 73 [oT 64]) (some (63,false))),(.mk (some 66) (.bin .neq (oT 65) (oC 2)) (some (63,false))),(oG 67 (.pick (oT 63) (.const (.bool true)) (oT 66)))]) (.cond (oT 67) (.seq (.region [(oG 0
 (.mv (.const (.bool false))))]) .ret) .skip)) (.seq (.region [oM 68 3,(oG 69 (.call 23 [oT 68])),oM 8 69]) (.seq (.region [oM 70 8,(oG 71 (.bin .eql (oT 70) (oC 0))),oM 72 71,(.mk (some 73) (.mv (oT 3)) (some (72,true))),(.mk
 (some 74) (.call 71 [oT 73]) (some (72,true))),(.mk (some 75) (.bin .eql (oT 74) (oC 1)) (some (72,true))),(oG 76 (.pick (oT 72) (oT 75) (.const (.bool false)))),oM 77 76,(.mk (some 78) (.mv (oT 3)) (some (77,true))),(.mk (some
 79) (.call 72 [oT 78]) (some (77,true))),(.mk (some 80) (.bin .eql (oT 79) (oC 0)) (some (77,true))),(oG 81 (.pick (oT 77) (oT 80) (.const (.bool false)))),oM 82 81,(.mk (some 83) (.mv (oT 3)) (some (82,true))),(.mk (some 84)
 (.call 73 [oT 83]) (some (82,true))),(.mk (some 85) (.bin .eql (oT 84) (oC 2)) (some (82,true))),(oG 86 (.pick (oT 82) (oT 85) (.const (.bool false)))),oM 0 86]) .ret)))))))))) 87 [.tmp 0])
def a18 : AFn :=
 (.mk (.seq (.region [oM 4 0,(oG 5 (.eq .ptr true (oT 4) (.const (.pointer none)))),oM 6 5,(.mk (some 7) (.mv (oT 0)) (some (6,true))),(.mk (some 8) (.nilCheck (oT 7)) (some (6,true))),(.mk (some 9) (.fieldAddr 3 (oT 8)) (some
 (6,true))),(.mk (some 10) (.load 1 false (oT 9)) (some (6,true))),(.mk (some 11) (.un .not (oT 10)) (some (6,true))),(oG 12 (.pick (oT 6) (oT 11) (.const (.bool false))))]) (.cond (oT 12) (.region [oM 13 0,oM 14 1,(oG 15 (.minmax
 true [oT 14,(.const (.int .i64 (-1)))])),oN 16 13,oF 17 2 16,oS 17 15]) .skip)) 18 [])
def a19 : AFn :=
 (.mk (.seq (.region [(oG 2 (.mv (.const (.bool false))))]) (.seq (.region [oM 3 0,(oG 4 (.eq .ptr true (oT 3) (.const (.pointer none)))),oM 5 4,(.mk (some 6) (.mv (oT 0)) (some (5,true))),(.mk (some 7) (.nilCheck (oT 6)) (some
 (5,true))),(.mk (some 8) (.fieldAddr 3 (oT 7)) (some (5,true))),(.mk (some 9) (.load 1 false (oT 8)) (some (5,true))),(oG 10 (.pick (oT 5) (oT 9) (.const (.bool false)))),oM 2 10]) .ret)) 11 [.tmp 2])
def a20 : AFn :=
 (.mk (.seq (.region [(oG 4 (.mv (.const (.slice none 0 0)))),(oG 5 (.mv (oC 0)))]) (.seq (.seq (.region [oM 11 1,(oG 12 (.len (oT 11))),(oG 13 (.mv (oC 0)))]) (.block 0 (.loop (.seq (.region [(oG 14 (.bin .lss (oT 13) (oT 12)))])
 (.seq (.cond (oT 14) .skip (.exit 0)) (.seq (.block 1 (.seq (.region [(oG 15 (.atSlice 3 (oT 11) (oT 13))),(oG 16 (.load 3 true (oT 15))),(oG 7 (.alloc [(.str []),(.int .i64 0),(.bool false)])),(oE (.store 3 (oT 7) (oT 16)))])
 (.seq (.region [oF 17 0 7,oL 18 17,(oG 19 (.lenStr (oT 18))),(oG 20 (.bin .gtr (oT 19) (oC 16))),oM 21 20,(.mk (some 22) (.fieldAddr 2 (oT 7)) (some (21,false))),(.mk (some 23) (.load 1 false (oT 22)) (some (21,false))),(.mk (some
 24) (.un .not (oT 23)) (some (21,false))),(.mk (some 25) (.mv (oT 24)) (some (21,false))),(.mk (some 26) (.fieldAddr 1 (oT 7)) (some (25,true))),(.mk (some 27) (.load 1 false (oT 26)) (some (25,true))),(.mk (some 28) (.bin .neq
 (oT 27) (oC 0)) (some (25,true))),(.mk (some 29) (.pick (oT 25) (oT 28) (.const (.bool false))) (some (21,false))),(oG 30 (.pick (oT 21) (.const (.bool true)) (oT 29)))]) (.cond (oT 30) (.seq (.region [oM 31 0,oM 4 31,(oG 5 (.mv
 (oC 2)))]) .ret) .skip)))) (.region [(oG 32 (.bin .add (oT 13) (oC 1))),oM 13 32]))))))) (.seq (.region [oM 33 0,oM 8 33]) (.seq (.seq (.region [oM 34 1,(oG 35 (.len (oT 34))),(oG 36 (.mv (oC 0)))]) (.block 2 (.loop (.seq (.region
 [(oG 37 (.bin .lss (oT 36) (oT 35)))]) (.seq (.cond (oT 37) .skip (.exit 2)) (.seq (.block 3 (.seq (.region [(oG 38 (.atSlice 3 (oT 34) (oT 36))),(oG 39 (.load 3 true (oT 38))),(oG 10 (.alloc [(.str []),(.int .i64 0),(.bool
 false)])),(oE (.store 3 (oT 10) (oT 39)))]) (.seq (.region [oM 40 8,(oG 41 (.load 3 true (oT 10))),(oG 42 (.call 74 [oT 40,oT 41])),oM 8 42]) (.seq (.region [oM 43 8,(oG 44 (.len (oT 43))),(oG 45 (.bin .gtr (oT 44) (oC 256)))])
 (.cond (oT 45) (.seq (.region [oM 46 0,oM 4 46,(oG 5 (.mv (oC 5)))]) .ret) .skip))))) (.region [(oG 47 (.bin .add (oT 36) (oC 1))),oM 36 47]))))))) (.seq (.region [oM 48 8,oM 4 48,(oG 5 (.mv (oC 0)))]) .ret))))) 49 [.tmp 4,.tmp
 5])
def a21 : AFn :=
 (.mk (.seq (.region [(oG 1 (.box (oT 0))),(oG 2 (.mv (.const (.slice none 0 0))))]) (.seq (.seq (.region [oF 3 2 1,oL 4 3,(oG 5 (.len (oT 4))),(oG 6 (.bin .eql (oT 5) (oC 0)))]) (.cond (oT 6) (.seq (.region [(oG 2 (.mv (.const
 (.slice none 0 0))))]) .ret) .skip)) (.seq (.region [oF 7 2 1,oL 8 7,(oG 9 (.atSlice 2 (oT 8) (oC 0))),oF 10 1 9,oL 11 10,(oG 12 (.call 75 [oT 11])),oM 2 12]) .ret))) 13 [.tmp 2])
def a22 : AFn :=
 (.mk (.seq (.region [(oG 2 (.mv (.const (.slice none 0 0))))]) (.seq (.region [(oG 3 (.mv (.const (.slice none 0 0))))]) (.seq (.seq (.region [oM 6 0,(oG 7 (.len (oT 6))),(oG 8 (.mv (oC 0)))]) (.block 0 (.loop (.seq (.region [(oG
 9 (.bin .lss (oT 8) (oT 7)))]) (.seq (.cond (oT 9) .skip (.exit 0)) (.seq (.block 1 (.seq (.region [(oG 10 (.atSlice 3 (oT 6) (oT 8))),(oG 11 (.load 3 true (oT 10))),(oG 5 (.alloc [(.str []),(.int .i64 0),(.bool false)])),(oE
 (.store 3 (oT 5) (oT 11)))]) (.region [oM 12 3,oF 13 0 5,oL 14 13,oF 15 1 5,oL 16 15,oF 17 2 5,oL 18 17,(oG 19 (.build [(.str []),(.int .i64 0),(.bool false)] [(0,(1,(oT 14))),(1,(1,(oT 16))),(2,(1,(oT 18)))])),(oG 20 (.buildSlice
 1 3 [(.str []),(.int .i64 0),(.bool false)] [(0,(3,(oT 19)))])),(oG 21 (.append false 3 32 (oT 12) (oT 20))),oM 3 21]))) (.region [(oG 22 (.bin .add (oT 8) (oC 1))),oM 8 22]))))))) (.seq (.region [oM 23 3,oM 2 23]) .ret)))) 24
 [.tmp 2])
def a23 : AFn :=
 (.mk (.seq (.region [(oG 2 (.mv (oC 0)))]) (.seq (.seq (.region [oM 5 0,(oG 6 (.eq .ptr false (oT 5) (.const (.pointer none))))]) (.cond (oT 6) (.seq (.region [(oG 2 (.mv (oC 1)))]) .ret) .skip)) (.seq (.region [oM 7 0,(oG 8
 (.call 76 [oT 7])),oM 3 8]) (.seq (.draws [(oM 9 0,0,10),(oN 10 9,0,10),(oF 11 0 10,0,10),(oL 12 11,0,10),(oM 13 0,0,9),(oN 14 13,0,9),(oF 15 3 14,0,9),(oL 16 15,0,9),(oM 17 3,0,9),((oG 18 (.call 69 [oT 16,oT 17])),0,10),((oG 19
 (.call 77 [oT 12,oT 18])),10,12),(oM 4 19,11,12)]) (.seq (.seq (.region [oM 20 4,(oG 21 (.bin .neq (oT 20) (oC 0)))]) (.cond (oT 21) (.seq (.region [oM 22 4,oM 2 22]) .ret) .skip)) (.seq (.region [oM 23 0,(oG 24 .mkMap),oN 25
 23,oF 26 1 25,oS 26 24]) (.seq (.region [oM 27 0,oM 28 0,oN 29 27,oF 30 2 29,(oE (.store 1 (oT 30) (oC 0))),oN 31 28,oF 32 4 31,(oE (.store 1 (oT 32) (oC 0)))]) (.seq (.region [oM 33 0,oM 34 0,oN 35 34,oF 36 3 35,oL 37 36,oM 38
 3,(oG 39 (.call 70 [oT 33,oC 0,oT 37,oT 38]))]) (.seq (.region [(oG 2 (.mv (oC 0)))]) .ret))))))))) 40 [.tmp 2])
def a24 : AFn :=
 (.mk (.seq (.region [(oG 4 (.mv (.const (.pointer none)))),(oG 5 (.mv (oC 0)))]) (.seq (.region [oM 15 0,oM 16 1,(oG 17 (.call 78 [oT 15,oT 16])),oM 14 17,oX 18 14 0,oX 19 14 1,oM 6 18,oM 7 19]) (.seq (.seq (.region [oM 20 7,(oG
 21 (.bin .neq (oT 20) (oC 0)))]) (.cond (oT 21) (.seq (.region [oM 22 7,(oG 4 (.mv (.const (.pointer none)))),oM 5 22]) .ret) .skip)) (.seq (.region [oM 23 6,(oG 24 .mkMap),(oG 25 (.build [(.ptr none),(.map none),(.int .i64
 0),(.int .i64 0),(.int .i64 0)] [(0,(1,(oT 23))),(1,(1,(oT 24)))])),(oG 26 (.box (oT 25))),oM 8 26]) (.seq (.seq (.region [oM 27 6,(oG 28 (.call 79 [oT 27])),oM 9 28]) (.seq (.region [oM 29 9,(oG 30 (.len (oT 29))),(oG 31 (.bin
 .gtr (oT 30) (oC 0)))]) (.cond (oT 31) (.seq (.region [oM 32 8,oM 33 9,(oG 34 (.call 80 [oT 32,oC 0,oT 33])),oM 10 34]) (.seq (.region [oM 35 10,(oG 36 (.eq (.iface true) true (oT 35) (.const .nilIface)))]) (.cond (oT 36) (.seq
 (.region [(oG 4 (.mv (.const (.pointer none)))),(oG 5 (.mv (oC 6)))]) .ret) .skip))) .skip))) (.seq (.seq (.region [oM 37 6,(oG 38 (.call 81 [oT 37])),(oG 39 (.len (oT 38))),(oG 40 (.mv (oC 0)))]) (.block 0 (.loop (.seq (.region
 [(oG 41 (.bin .lss (oT 40) (oT 39)))]) (.seq (.cond (oT 41) .skip (.exit 0)) (.seq (.block 1 (.seq (.region [oM 42 40,(oG 43 (.atSlice 1 (oT 38) (oT 40))),oL 44 43,oM 11 42,oM 12 44]) (.seq (.region [oM 45 11,oM 46 8,oM 47 11,(oG
 48 (.bin .add (oT 47) (oC 1))),oM 49 12,(oG 50 (.call 80 [oT 46,oT 48,oT 49])),(oG 51 (.call 82 [oT 45,oT 50])),oM 13 51]) (.seq (.region [oM 52 13,(oG 53 (.eq (.iface true) true (oT 52) (.const .nilIface)))]) (.cond (oT 53) (.seq
 (.region [(oG 4 (.mv (.const (.pointer none)))),(oG 5 (.mv (oC 6)))]) .ret) .skip))))) (.region [(oG 54 (.bin .add (oT 40) (oC 1))),oM 40 54]))))))) (.seq (.region [oM 55 8,oM 56 6,(oG 57 (.call 83 [oT 56])),oN 58 55,oF 59 4 58,oS
 59 57]) (.seq (.region [oM 60 8,oM 4 60,(oG 5 (.mv (oC 0)))]) .ret)))))))) 61 [.tmp 4,.tmp 5])
def a25 : AFn :=
 (.mk (.seq (.region [(oG 4 (.mv (.const (.pointer none))))]) (.seq (.seq (.region [oM 10 0,(oG 11 (.eq .ptr false (oT 10) (.const (.pointer none))))]) (.cond (oT 11) (.seq (.region [(oG 4 (.mv (.const (.pointer none))))]) .ret)
 .skip)) (.seq (.region [oM 12 0,oN 13 12,oF 14 0 13,oL 15 14,(oG 16 .mkMap),(oG 17 (.build [(.int .i64 0),(.map none),(.int .i64 0),(.bool false)] [(0,(1,(oT 15))),(1,(1,(oT 16))),(2,(1,(.const (.int .i64 (-1))))),(3,(1,(.const
 (.bool false))))])),(oG 18 (.box (oT 17))),oM 5 18]) (.seq (.seq (.region [oM 19 0,(oG 20 (.call 84 [oT 19])),(oG 21 (.len (oT 20))),(oG 22 (.mv (oC 0)))]) (.block 0 (.loop (.seq (.region [(oG 23 (.bin .lss (oT 22) (oT 21)))])
 (.seq (.cond (oT 23) .skip (.exit 0)) (.seq (.block 1 (.seq (.region [oM 24 22,(oG 25 (.atSlice 1 (oT 20) (oT 22))),oL 26 25,oM 6 24,oM 7 26]) (.seq (.region [oM 27 0,oN 28 27,oF 29 1 28,oL 30 29,oM 31 7,(oG 32 (.lookup (.int
 .i64) (.agg [(.slice none 0 0 0 0),(.int .i64 0)]) false (oT 30) (oT 31))),(oG 8 (.alloc [(.slice none 0 0 0 0),(.int .i64 0)])),(oE (.store 2 (oT 8) (oT 32)))]) (.seq (.region [oF 33 1 8,oL 34 33,oM 9 34]) (.seq (.seq (.region
 [oM 35 6,oM 36 1,(oG 37 (.len (oT 36))),(oG 38 (.bin .lss (oT 35) (oT 37)))]) (.cond (oT 38) (.draws [(oM 39 9,0,15),(oM 40 1,0,15),(oM 41 6,0,15),((oG 42 (.atSlice 1 (oT 40) (oT 41))),0,15),(oL 43 42,0,15),((oG 44 (.minmax true
 [oT 43,oC 0])),0,15),(oF 45 0 8,0,15),(oL 46 45,0,15),((oG 47 (.len (oT 46))),0,15),(oF 48 1 8,0,15),(oL 49 48,0,15),((oG 50 (.bin .sub (oT 47) (oT 49))),0,15),((oG 51 (.minmax false [oT 44,oT 50])),0,15),((oG 52 (.bin .add (oT
 39) (oT 51))),0,15),(oM 9 52,0,15)]) .skip)) (.seq (.region [oM 53 9,(oG 54 (.bin .gtr (oT 53) (oC 0))),oM 55 54,(.mk (some 56) (.fieldAddr 1 (oT 8)) (some (55,false))),(.mk (some 57) (.load 1 false (oT 56)) (some
 (55,false))),(.mk (some 58) (.bin .gtr (oT 57) (oC 0)) (some (55,false))),(oG 59 (.pick (oT 55) (.const (.bool true)) (oT 58)))]) (.cond (oT 59) (.draws [(oM 60 5,0,12),(oN 61 60,0,12),(oF 62 1 61,0,12),(oL 63 62,0,12),(oM 64
 7,0,12),(oF 65 0 8,0,9),(oL 66 65,0,9),(oM 67 9,0,9),((oG 68 (.cutSlice 1 (oT 66) none (some (oT 67)) none)),0,9),((oG 69 (.call 85 [oT 68])),0,12),(oM 70 9,0,12),((oG 71 (.build [(.slice none 0 0 0 0),(.int .i64 0)] [(0,(1,(oT
 69))),(1,(1,(oT 70)))])),10,12),((oE (.mapPut (.int .i64) (oT 63) (oT 64) (oT 71))),10,13)]) .skip))))))) (.region [(oG 72 (.bin .add (oT 22) (oC 1))),oM 22 72]))))))) (.seq (.region [oM 73 5,oM 4 73]) .ret))))) 74 [.tmp 4])
def a26 : AFn :=
 (.mk (.seq (.region [(oG 4 (.mv (.const (.bool false))))]) (.seq (.seq (.region [oM 6 0,(oG 7 (.len (oT 6))),oM 8 1,(oG 9 (.len (oT 8))),(oG 10 (.bin .neq (oT 7) (oT 9)))]) (.cond (oT 10) (.seq (.region [(oG 4 (.mv (.const (.bool
 false))))]) .ret) .skip)) (.seq (.seq (.region [oM 11 0,(oG 12 (.len (oT 11))),(oG 13 (.mv (oC 0)))]) (.block 0 (.loop (.seq (.region [(oG 14 (.bin .lss (oT 13) (oT 12)))]) (.seq (.cond (oT 14) .skip (.exit 0)) (.seq (.block 1
 (.seq (.region [oM 15 13,oM 5 15]) (.seq (.draws [(oM 16 0,0,9),(oM 17 5,0,9),((oG 18 (.atSlice 2 (oT 16) (oT 17))),0,9),((oG 19 (.load 2 true (oT 18))),0,9),(oM 20 1,0,9),(oM 21 5,0,9),((oG 22 (.atSlice 2 (oT 20) (oT
 21))),0,9),((oG 23 (.load 2 true (oT 22))),0,9),((oG 24 (.eqAgg true [.str,(.int .i64)] (oT 19) (oT 23))),0,9)]) (.cond (oT 24) (.seq (.region [(oG 4 (.mv (.const (.bool false))))]) .ret) .skip)))) (.region [(oG 25 (.bin .add (oT
 13) (oC 1))),oM 13 25]))))))) (.seq (.region [(oG 4 (.mv (.const (.bool true))))]) .ret)))) 26 [.tmp 4])
def a27 : AFn :=
 (.mk (.seq (.region [(oG 2 (.mv (.const (.slice none 0 0))))]) (.seq (.seq (.region [oM 6 0,(oG 7 (.eq .ptr false (oT 6) (.const (.pointer none))))]) (.cond (oT 7) (.seq (.region [(oG 2 (.mv (.const (.slice none 0 0))))]) .ret)
 .skip)) (.seq (.region [(oG 3 (.mv (.const (.slice none 0 0))))]) (.seq (.seq (.region [oM 8 0,(oG 9 (.call 76 [oT 8])),(oG 10 (.len (oT 9))),(oG 11 (.mv (oC 0)))]) (.block 0 (.loop (.seq (.region [(oG 12 (.bin .lss (oT 11) (oT
 10)))]) (.seq (.cond (oT 12) .skip (.exit 0)) (.seq (.block 1 (.seq (.region [(oG 13 (.atSlice 3 (oT 9) (oT 11))),(oG 14 (.load 3 true (oT 13))),(oG 5 (.alloc [(.str []),(.int .i64 0),(.bool false)])),(oE (.store 3 (oT 5) (oT
 14)))]) (.region [oM 15 3,oF 16 0 5,oL 17 16,oF 18 1 5,oL 19 18,(oG 20 (.build [(.str []),(.int .i64 0)] [(0,(1,(oT 17))),(1,(1,(oT 19)))])),(oG 21 (.buildSlice 1 2 [(.str []),(.int .i64 0)] [(0,(2,(oT 20)))])),(oG 22 (.append
 false 2 24 (oT 15) (oT 21))),oM 3 22]))) (.region [(oG 23 (.bin .add (oT 11) (oC 1))),oM 11 23]))))))) (.seq (.region [oM 24 3,oM 2 24]) .ret))))) 25 [.tmp 2])
def a63 : AFn :=
 (.mk (.seq (.region [(oG 2 (.mv (.const (.pointer none)))),(oG 3 (.mv (oC 0)))]) (.seq (.seq (.region [oM 4 0,(oG 5 (.bin .lss (oT 4) (oC 0))),oM 6 5,(.mk (some 7) (.mv (oT 0)) (some (6,false))),(.mk (some 8) (.bin .gtr (oT 7) (oC
 1048576)) (some (6,false))),(oG 9 (.pick (oT 6) (.const (.bool true)) (oT 8)))]) (.cond (oT 9) (.seq (.region [(oG 2 (.mv (.const (.pointer none)))),(oG 3 (.mv (oC 2)))]) .ret) .skip)) (.seq (.region [oM 10 0,(oG 11 .mkMap),(oG 12
 (.build [(.int .i64 0),(.map none),(.int .i64 0),(.bool false)] [(0,(1,(oT 10))),(1,(1,(oT 11))),(2,(1,(.const (.int .i64 (-1))))),(3,(1,(.const (.bool false))))])),(oG 13 (.box (oT 12))),oM 2 13,(oG 3 (.mv (oC 0)))]) .ret))) 14
 [.tmp 2,.tmp 3])
def a64 : AFn :=
 (.mk (.seq (.region [(oG 4 (.mv (.const (.pointer none)))),(oG 5 (.mv (oC 0)))]) (.seq (.region [oM 17 0,oM 18 1,(oG 19 (.call 147 [oT 17,oT 18])),oM 16 19,oX 20 16 0,oX 21 16 1,oM 6 20,oM 7 21]) (.seq (.seq (.region [oM 22 7,(oG
 23 (.bin .neq (oT 22) (oC 0)))]) (.cond (oT 23) (.seq (.region [oM 24 7,(oG 4 (.mv (.const (.pointer none)))),oM 5 24]) .ret) .skip)) (.seq (.region [oM 25 6,(oG 26 (.build [(.ptr none),(.slice none 0 0 0 0)] [(0,(1,(oT
 25)))])),(oG 27 (.box (oT 26))),oM 8 27]) (.seq (.region [(oG 9 (.mv (.const (.slice none 0 0))))]) (.seq (.seq (.region [oM 28 6,oN 29 28,oF 30 3 29,oL 31 30,(oG 32 (.len (oT 31))),(oG 33 (.bin .gtr (oT 32) (oC 0)))]) (.cond (oT
 33) (.region [oM 34 9,oM 35 6,oN 36 35,oF 37 3 36,oL 38 37,(oG 39 (.buildSlice 1 1 [(.slice none 0 0 0 0)] [(0,(1,(oT 38)))])),(oG 40 (.append false 1 24 (oT 34) (oT 39))),oM 9 40]) .skip)) (.seq (.seq (.region [oM 41 9,oM 42 6,oN
 43 42,oF 44 4 43,oL 45 44,(oG 46 (.append false 1 24 (oT 41) (oT 45))),(oG 47 (.len (oT 46))),(oG 48 (.mv (oC 0)))]) (.block 0 (.loop (.seq (.region [(oG 49 (.bin .lss (oT 48) (oT 47)))]) (.seq (.cond (oT 49) .skip (.exit 0))
 (.seq (.block 1 (.seq (.region [(oG 50 (.atSlice 1 (oT 46) (oT 48))),oL 51 50,oM 11 51]) (.seq (.region [oM 53 11,(oG 54 (.call 148 [oT 53])),oM 52 54,oX 55 52 0,oX 56 52 1,(oG 12 (.alloc [(.int .i64 0),(.slice none 0 0 0
 0)])),(oE (.store 2 (oT 12) (oT 55))),oM 13 56]) (.seq (.seq (.region [oM 57 13,(oG 58 (.un .not (oT 57)))]) (.cond (oT 58) (.seq (.region [(oG 4 (.mv (.const (.pointer none)))),(oG 5 (.mv (oC 6)))]) .ret) .skip)) (.seq (.draws
 [(oM 60 8,0,1),((oG 61 (.call 149 [oT 60])),0,4),(oF 62 1 12,0,4),(oL 63 62,0,4),((oG 64 (.call 20 [oT 61,oT 63])),2,10),(oM 59 64,5,10),(oX 65 59 0,5,10),(oX 66 59 1,5,10),(oM 14 65,5,10),(oM 15 66,5,10)]) (.seq (.seq (.region
 [oM 67 15,(oG 68 (.bin .neq (oT 67) (oC 0)))]) (.cond (oT 68) (.seq (.region [(oG 4 (.mv (.const (.pointer none)))),(oG 5 (.mv (oC 6)))]) .ret) .skip)) (.draws [(oM 69 8,0,10),(oM 70 8,0,7),(oN 71 70,0,7),(oF 72 1 71,0,7),(oL 73
 72,0,7),((oG 74 (.load 2 true (oT 12))),0,6),((oG 75 (.buildSlice 1 2 [(.int .i64 0),(.slice none 0 0 0 0)] [(0,(2,(oT 74)))])),0,7),((oG 76 (.append false 2 32 (oT 73) (oT 75))),7,10),(oN 77 69,8,10),(oF 78 1 77,8,10),((oS 78
 76),8,11)]))))))) (.region [(oG 79 (.bin .add (oT 48) (oC 1))),oM 48 79]))))))) (.seq (.region [oM 80 8,oM 4 80,(oG 5 (.mv (oC 0)))]) .ret)))))))) 81 [.tmp 4,.tmp 5])
def a65 : AFn :=
 (.mk (.seq (.region [(oG 2 (.mv (.const (.pointer none))))]) (.seq (.region [oM 3 0,(oG 4 (.build [(.int .i64 0),(.slice none 0 0 0 0),(.int .i64 0),(.bool false)] [(0,(1,(oT 3))),(2,(1,(.const (.int .i64 (-1)))))])),(oG 5 (.box
 (oT 4))),oM 2 5]) .ret)) 6 [.tmp 2])
def a66 : AFn :=
 (.mk (.seq (.region [(oG 6 (.mv (.const .nilIface)))]) (.seq (.seq (.region [oM 7 1,(oG 8 (.bin .lss (oT 7) (oC 0))),oM 9 8,(.mk (some 10) (.mv (oT 1)) (some (9,false))),(.mk (some 11) (.bin .gtr (oT 10) (oC 1073741824)) (some
 (9,false))),(oG 12 (.pick (oT 9) (.const (.bool true)) (oT 11)))]) (.cond (oT 12) (.seq (.region [oM 13 1,(oG 14 (.call 90 [oC 2])),(oG 15 (.call 150 [oC 1073741824,oT 13,oT 14])),oM 6 15]) .ret) .skip)) (.seq (.region [oM 16
 0,(oG 17 (.call 27 [oT 16])),(oG 18 (.call 108 [oT 17])),oM 19 2,(oG 20 (.call 152 [oT 18,oT 19])),(oG 21 (.call 90 [oT 20])),(oG 22 (.call 151 [(.const (.string (ByteArray.mk #[99,104,97,110,103,101,115]))),oT 21])),oM 6 22])
 .ret))) 23 [.tmp 6])
def a68 : AFn :=
 (.mk (.seq (.region [(oG 4 (.mv (oC 0)))]) (.seq (.seq (.region [oM 6 0,(oG 7 (.eq .ptr false (oT 6) (.const (.pointer none))))]) (.cond (oT 7) (.seq (.region [(oG 4 (.mv (oC 1)))]) .ret) .skip)) (.seq (.seq (.region [oM 8 0,oM 9
 1,(oG 10 (.call 154 [oT 8,oT 9])),oM 5 10]) (.seq (.region [oM 11 5,(oG 12 (.eq (.iface true) true (oT 11) (.const .nilIface)))]) (.cond (oT 12) (.seq (.region [oM 13 5,(oG 14 (.call 67 [oT 13])),oM 4 14]) .ret) .skip))) (.seq
 (.region [oM 15 0,(oG 16 (.call 155 [oT 15])),oM 4 16]) .ret)))) 17 [.tmp 4])
def a69 : AFn :=
 (.mk (.seq (.region [(oG 4 (.mv (.const (.slice none 0 0))))]) (.seq (.region [oM 5 0,(oG 6 (.conv .u64 (oT 5))),(oG 7 (.call 120 [oT 6])),oM 8 1,(oG 9 (.call 121 [oT 8])),(oG 10 (.buildSlice 2 1 [(.slice none 0 0 0 0),(.slice
 none 0 0 0 0)] [(0,(1,(oT 7))),(1,(1,(oT 9)))])),(oG 11 (.call 119 [oT 10])),oM 4 11]) .ret)) 12 [.tmp 4])
def a70 : AFn :=
 (.mk (.seq (.seq (.region [oM 10 3,(oG 11 (.len (oT 10))),(oG 12 (.mv (oC 0)))]) (.block 0 (.loop (.seq (.region [(oG 13 (.bin .lss (oT 12) (oT 11)))]) (.seq (.cond (oT 13) .skip (.exit 0)) (.seq (.block 1 (.seq (.region [(oG 14
 (.atSlice 3 (oT 10) (oT 12))),(oG 15 (.load 3 true (oT 14))),(oG 9 (.alloc [(.str []),(.int .i64 0),(.bool false)])),(oE (.store 3 (oT 9) (oT 15)))]) (.draws [(oM 16 0,0,9),(oN 17 16,0,9),(oF 18 1 17,0,9),(oL 19 18,0,9),(oF 20 0
 9,0,9),(oL 21 20,0,9),((oG 22 (.load 3 true (oT 9))),0,9),(oM 23 1,0,9),((oG 24 (.build [(.str []),(.int .i64 0),(.bool false),(.int .i64 0)] [(0,(3,(oT 22))),(3,(1,(oT 23)))])),0,9),((oE (.mapPut .str (oT 19) (oT 21) (oT
 24))),0,10)]))) (.region [(oG 25 (.bin .add (oT 12) (oC 1))),oM 12 25]))))))) (.seq (.region [oM 26 0,oN 27 26,oF 28 2 27,oL 29 28,oM 30 3,(oG 31 (.len (oT 30))),(oG 32 (.bin .add (oT 29) (oT 31))),oN 33 26,oF 34 2 33,oS 34 32])
 (.region [oM 35 0,oM 36 0,oN 37 36,oF 38 3 37,oL 39 38,oM 40 2,(oG 41 (.minmax true [oT 39,oT 40])),oN 42 35,oF 43 3 42,oS 43 41]))) 44 [])
def a71 : AFn :=
 (.mk (.seq (.region [(oG 2 (.mv (oC 0)))]) (.seq (.seq (.region [oM 3 0,(oG 4 (.eq .ptr false (oT 3) (.const (.pointer none))))]) (.cond (oT 4) (.seq (.region [(oG 2 (.mv (oC 0)))]) .ret) .skip)) (.seq (.region [oM 5 0,(oG 6
 (.call 76 [oT 5])),(oG 7 (.len (oT 6))),oM 2 7]) .ret))) 8 [.tmp 2])
def a72 : AFn :=
 (.mk (.seq (.region [(oG 2 (.mv (oC 0)))]) (.seq (.seq (.region [oM 3 0,(oG 4 (.eq .ptr false (oT 3) (.const (.pointer none))))]) (.cond (oT 4) (.seq (.region [(oG 2 (.mv (oC 0)))]) .ret) .skip)) (.seq (.draws [(oM 5 0,0,8),(oN 6
 5,0,8),(oF 7 2 6,0,8),(oL 8 7,0,8),(oM 9 0,0,5),((oG 10 (.call 71 [oT 9])),0,8),((oG 11 (.bin .sub (oT 8) (oT 10))),6,8),(oM 2 11,6,8)]) .ret))) 12 [.tmp 2])
def a73 : AFn :=
 (.mk (.seq (.region [(oG 2 (.mv (oC 0)))]) (.seq (.seq (.region [oM 3 0,(oG 4 (.eq .ptr false (oT 3) (.const (.pointer none))))]) (.cond (oT 4) (.seq (.region [(oG 2 (.mv (oC 0)))]) .ret) .skip)) (.seq (.region [oM 5 0,oN 6 5,oF 7
 3 6,oL 8 7,oM 2 8]) .ret))) 9 [.tmp 2])
def a74 : AFn :=
 (.mk (.seq (.region [(oG 3 (.box (oT 1))),(oG 4 (.mv (.const (.slice none 0 0))))]) (.seq (.region [(oG 5 (.mv (.const (.slice none 0 0))))]) (.seq (.region [oF 9 2 3,oL 10 9,(oG 11 (.un .not (oT 10))),oM 6 11]) (.seq (.seq
 (.region [oM 12 0,(oG 13 (.len (oT 12))),(oG 14 (.mv (oC 0)))]) (.block 0 (.loop (.seq (.region [(oG 15 (.bin .lss (oT 14) (oT 13)))]) (.seq (.cond (oT 15) .skip (.exit 0)) (.seq (.block 1 (.seq (.region [(oG 16 (.atSlice 2 (oT
 12) (oT 14))),(oG 17 (.load 2 true (oT 16))),(oG 8 (.alloc [(.str []),(.int .i64 0)])),(oE (.store 2 (oT 8) (oT 17)))]) (.seq (.seq (.region [oM 18 6,(oG 19 (.un .not (oT 18))),oM 20 19,(.mk (some 21) (.fieldAddr 0 (oT 8)) (some
 (20,true))),(.mk (some 22) (.load 1 false (oT 21)) (some (20,true))),(.mk (some 23) (.fieldAddr 0 (oT 3)) (some (20,true))),(.mk (some 24) (.load 1 false (oT 23)) (some (20,true))),(.mk (some 25) (.bin .geq (oT 22) (oT 24)) (some
 (20,true))),(oG 26 (.pick (oT 20) (oT 25) (.const (.bool false))))]) (.cond (oT 26) (.seq (.region [oM 27 5,oF 28 0 3,oL 29 28,oF 30 1 3,oL 31 30,(oG 32 (.build [(.str []),(.int .i64 0)] [(0,(1,(oT 29))),(1,(1,(oT 31)))])),(oG 33
 (.buildSlice 1 2 [(.str []),(.int .i64 0)] [(0,(2,(oT 32)))])),(oG 34 (.append false 2 24 (oT 27) (oT 33))),oM 5 34]) (.region [(oG 6 (.mv (.const (.bool true))))])) .skip)) (.seq (.region [oF 35 0 8,oL 36 35,oF 37 0 3,oL 38
 37,(oG 39 (.bin .neq (oT 36) (oT 38)))]) (.cond (oT 39) (.region [oM 40 5,(oG 41 (.load 2 true (oT 8))),(oG 42 (.buildSlice 1 2 [(.str []),(.int .i64 0)] [(0,(2,(oT 41)))])),(oG 43 (.append false 2 24 (oT 40) (oT 42))),oM 5 43])
 .skip))))) (.region [(oG 44 (.bin .add (oT 14) (oC 1))),oM 14 44]))))))) (.seq (.seq (.region [oM 45 6,(oG 46 (.un .not (oT 45)))]) (.cond (oT 46) (.region [oM 47 5,oF 48 0 3,oL 49 48,oF 50 1 3,oL 51 50,(oG 52 (.build [(.str
 []),(.int .i64 0)] [(0,(1,(oT 49))),(1,(1,(oT 51)))])),(oG 53 (.buildSlice 1 2 [(.str []),(.int .i64 0)] [(0,(2,(oT 52)))])),(oG 54 (.append false 2 24 (oT 47) (oT 53))),oM 5 54]) .skip)) (.seq (.region [oM 55 5,oM 4 55])
 .ret)))))) 56 [.tmp 4])
def a75 : AFn :=
 (.mk (.seq (.region [(oG 2 (.mv (.const (.slice none 0 0))))]) (.seq (.region [(oG 3 (.mv (.const (.slice none 0 0))))]) (.seq (.seq (.region [oM 6 0,(oG 7 (.len (oT 6))),(oG 8 (.mv (oC 0)))]) (.block 0 (.loop (.seq (.region [(oG
 9 (.bin .lss (oT 8) (oT 7)))]) (.seq (.cond (oT 9) .skip (.exit 0)) (.seq (.block 1 (.seq (.region [oM 10 8,(oG 11 (.atSlice 3 (oT 6) (oT 8))),(oG 12 (.load 3 true (oT 11))),(oG 5 (.alloc [(.str []),(.int .i64 0),(.bool
 false)])),oM 4 10,(oE (.store 3 (oT 5) (oT 12)))]) (.seq (.seq (.region [oM 13 4,(oG 14 (.bin .geq (oT 13) (oC 20)))]) (.cond (oT 14) (.exit 0) .skip)) (.seq (.seq (.region [oF 15 0 5,oL 16 15,(oG 17 (.lenStr (oT 16))),(oG 18
 (.bin .gtr (oT 17) (oC 20)))]) (.cond (oT 18) (.region [oF 19 0 5,oL 20 19,(oG 21 (.cutStr (oT 20) none (some (oC 20)))),oF 22 0 5,oS 22 21]) .skip)) (.region [oM 23 3,(oG 24 (.load 3 true (oT 5))),(oG 25 (.buildSlice 1 3 [(.str
 []),(.int .i64 0),(.bool false)] [(0,(3,(oT 24)))])),(oG 26 (.append false 3 32 (oT 23) (oT 25))),oM 3 26]))))) (.region [(oG 27 (.bin .add (oT 8) (oC 1))),oM 8 27]))))))) (.seq (.region [oM 28 3,oM 2 28]) .ret)))) 29 [.tmp 2])
def a76 : AFn :=
 (.mk (.seq (.region [(oG 2 (.mv (.const (.slice none 0 0))))]) (.seq (.region [(oG 3 (.mv (.const (.slice none 0 0))))]) (.seq (.seq (.region [oM 7 0,oN 8 7,oF 9 1 8,oL 10 9,(oG 11 (.call 157 [oT 10])),(oG 12 (.call 156 [oT
 11])),(oG 13 (.len (oT 12))),(oG 14 (.mv (oC 0)))]) (.block 0 (.loop (.seq (.region [(oG 15 (.bin .lss (oT 14) (oT 13)))]) (.seq (.cond (oT 15) .skip (.exit 0)) (.seq (.block 1 (.seq (.region [(oG 16 (.atSlice 1 (oT 12) (oT
 14))),oL 17 16,oM 5 17]) (.seq (.region [oM 18 0,oN 19 18,oF 20 1 19,oL 21 20,oM 22 5,(oG 23 (.lookup .str (.agg [(.str []),(.int .i64 0),(.bool false),(.int .i64 0)]) false (oT 21) (oT 22))),(oG 6 (.alloc [(.str []),(.int .i64
 0),(.bool false),(.int .i64 0)])),(oE (.store 4 (oT 6) (oT 23)))]) (.seq (.region [oF 24 0 6,oF 25 2 24,oL 26 25]) (.cond (oT 26) (.region [oM 27 3,oF 28 0 6,(oG 29 (.load 3 true (oT 28))),(oG 30 (.buildSlice 1 3 [(.str []),(.int
 .i64 0),(.bool false)] [(0,(3,(oT 29)))])),(oG 31 (.append false 3 32 (oT 27) (oT 30))),oM 3 31]) .skip))))) (.region [(oG 32 (.bin .add (oT 14) (oC 1))),oM 14 32]))))))) (.seq (.region [oM 33 3,oM 2 33]) .ret)))) 34 [.tmp 2])
def a77 : AFn :=
 (.mk (.seq (.region [(oG 4 (.mv (oC 0)))]) (.seq (.block 0 (.seq (.region [oM 9 0,(oG 10 (.eq .ptr false (oT 9) (.const (.pointer none)))),oM 8 10]) (.cond (oT 8) (.seq (.region [(oG 4 (.mv (oC 1)))]) .ret) (.seq (.region [oM 12
 1,(oG 13 (.len (oT 12))),(oG 14 (.bin .gtr (oT 13) (oC 16383))),oM 11 14]) (.cond (oT 11) (.seq (.region [(oG 4 (.mv (oC 7)))]) .ret) .skip))))) (.seq (.seq (.region [oM 15 0,(oG 16 (.call 155 [oT 15])),oM 5 16]) (.seq (.region
 [oM 17 5,(oG 18 (.bin .neq (oT 17) (oC 0)))]) (.cond (oT 18) (.seq (.region [oM 19 5,oM 4 19]) .ret) .skip))) (.seq (.region [oM 20 0,oN 21 20,oF 22 2 21,oL 23 22,(oG 24 (.bin .add (oT 23) (oC 1))),oM 6 24]) (.seq (.draws [(oM 25
 6,0,12),(oM 26 0,0,11),(oN 27 26,0,11),(oF 28 0 27,0,11),(oL 29 28,0,11),(oM 30 6,0,11),((oG 31 (.buildSlice 1 1 [(.int .u8 0)] [(0,(1,(.const (.int .u8 1))))])),0,8),(oM 32 1,0,8),((oG 33 (.buildSlice 2 1 [(.slice none 0 0 0
 0),(.slice none 0 0 0 0)] [(0,(1,(oT 31))),(1,(1,(oT 32)))])),7,9),((oG 34 (.call 160 [oT 33])),9,10),((oG 35 (.buildSlice 1 1 [(.slice none 0 0 0 0)] [(0,(1,(oT 34)))])),10,11),((oG 36 (.call 159 [oT 29,oT 30,oT 35])),11,12),((oG
 37 (.call 158 [oT 25,oT 36])),12,14),(oM 7 37,13,14)]) (.seq (.seq (.region [oM 38 7,(oG 39 (.eq (.iface true) true (oT 38) (.const .nilIface)))]) (.cond (oT 39) (.seq (.region [oM 40 7,(oG 41 (.call 67 [oT 40])),oM 4 41]) .ret)
 .skip)) (.seq (.seq (.region [oM 42 6,oM 43 0,oN 44 43,oF 45 0 44,oL 46 45,oM 47 6,(oG 48 (.call 161 [oT 46,oT 47])),(oG 49 (.call 158 [oT 42,oT 48])),oM 7 49]) (.seq (.region [oM 50 7,(oG 51 (.eq (.iface true) true (oT 50)
 (.const .nilIface)))]) (.cond (oT 51) (.seq (.region [oM 52 0,oN 53 52,oF 54 0 53,oL 55 54,oM 56 6,(oG 57 (.call 162 [oT 55,oT 56]))]) (.seq (.region [oM 58 7,(oG 59 (.call 67 [oT 58])),oM 4 59]) .ret)) .skip))) (.seq (.region [oM
 60 0,oM 61 0,oM 62 0,oM 63 6,oM 64 1,(oG 65 (.call 85 [oT 64])),oN 66 60,oF 67 2 66,oS 67 63,oN 68 61,oF 69 3 68,oS 69 65,oN 70 62,oF 71 4 70,(oE (.store 1 (oT 71) (.const (.slice none 0 0))))]) (.seq (.region [oM 72 0,(oG 73
 (.call 163 [oT 72])),(oG 74 (.call 67 [oT 73])),oM 4 74]) .ret))))))))) 75 [.tmp 4])
def a78 : AFn :=
 (.mk (.seq (.region [(oG 4 (.mv (.const (.pointer none)))),(oG 5 (.mv (oC 0)))]) (.seq (.block 0 (.seq (.region [oM 9 0,(oG 10 (.eq .ptr false (oT 9) (.const (.pointer none)))),oM 8 10]) (.cond (oT 8) (.seq (.region [(oG 4 (.mv
 (.const (.pointer none)))),(oG 5 (.mv (oC 1)))]) .ret) (.seq (.region [oM 12 1,(oG 13 (.bin .lss (oT 12) (oC 16))),oM 14 13,(.mk (some 15) (.mv (oT 1)) (some (14,false))),(.mk (some 16) (.bin .gtr (oT 15) (oC 1048576)) (some
 (14,false))),(oG 17 (.pick (oT 14) (.const (.bool true)) (oT 16))),oM 11 17]) (.cond (oT 11) (.seq (.region [(oG 4 (.mv (.const (.pointer none)))),(oG 5 (.mv (oC 2)))]) .ret) .skip))))) (.seq (.region [oM 18 0,oM 19 1,(oG 20
 (.build [(.ptr none),(.int .i64 0),(.int .i64 0),(.slice none 0 0 0 0),(.slice none 0 0 0 0)] [(0,(1,(oT 18))),(1,(1,(oT 19))),(2,(1,(.const (.int .i64 (-1)))))])),(oG 21 (.box (oT 20))),oM 6 21]) (.seq (.region [oM 22 6,(oG 23
 (.call 164 [oT 22])),oM 7 23]) (.seq (.seq (.region [oM 24 7,(oG 25 (.eq (.iface true) false (oT 24) (.const .nilIface)))]) (.cond (oT 25) (.region [oM 26 6,(oG 27 (.call 165 [oT 26])),oM 7 27]) .skip)) (.seq (.seq (.region [oM 28
 7,(oG 29 (.eq (.iface true) true (oT 28) (.const .nilIface)))]) (.cond (oT 29) (.seq (.region [oM 30 7,(oG 31 (.call 67 [oT 30])),(oG 4 (.mv (.const (.pointer none)))),oM 5 31]) .ret) .skip)) (.seq (.region [oM 32 6,oM 4 32,(oG 5
 (.mv (oC 0)))]) .ret))))))) 33 [.tmp 4,.tmp 5])
def a79 : AFn :=
 (.mk (.seq (.region [(oG 2 (.mv (.const (.slice none 0 0))))]) (.seq (.seq (.region [oM 3 0,(oG 4 (.eq .ptr false (oT 3) (.const (.pointer none))))]) (.cond (oT 4) (.seq (.region [(oG 2 (.mv (.const (.slice none 0 0))))]) .ret)
 .skip)) (.seq (.region [oM 5 0,oN 6 5,oF 7 3 6,oL 8 7,(oG 9 (.call 85 [oT 8])),oM 2 9]) .ret))) 10 [.tmp 2])
def a80 : AFn :=
 (.mk (.seq (.region [(oG 6 (.mv (.const .nilIface)))]) (.seq (.region [oM 11 2,(oG 12 (.call 166 [oT 11])),oM 7 12]) (.seq (.region [oM 13 7,(oG 14 (.call 167 [oT 13])),oM 8 14]) (.seq (.seq (.region [oM 15 7,(oG 16 (.call 168 [oT
 15])),(oG 17 (.bin .neq (oT 16) (oC 0))),oM 18 17,(.mk (some 19) (.mv (oT 8)) (some (18,false))),(.mk (some 20) (.bin .gtr (oT 19) (.const (.int .u64 1073741824))) (some (18,false))),(oG 21 (.pick (oT 18) (.const (.bool true)) (oT
 20)))]) (.cond (oT 21) (.seq (.region [(oG 22 (.call 90 [oC 6])),(oG 23 (.call 151 [(.const (.string (ByteArray.mk #[109,97,114,107]))),oT 22])),oM 6 23]) .ret) .skip)) (.seq (.region [oM 25 2,oM 26 2,(oG 27 (.len (oT 26))),oM 28
 7,(oG 29 (.call 170 [oT 28])),(oG 30 (.bin .sub (oT 27) (oT 29))),(oG 31 (.cutSlice 1 (oT 25) (some (oT 30)) none none)),(oG 32 (.call 169 [oT 31])),oM 24 32,oX 33 24 0,oX 34 24 1,oM 9 33,oM 10 34]) (.seq (.seq (.region [oM 35
 10,(oG 36 (.bin .neq (oT 35) (oC 0)))]) (.cond (oT 36) (.seq (.region [oM 37 10,(oG 38 (.call 90 [oT 37])),(oG 39 (.call 151 [(.const (.string (ByteArray.mk #[99,104,97,110,103,101,115]))),oT 38])),oM 6 39]) .ret) .skip)) (.seq
 (.seq (.region [oM 40 0,oM 41 9,(oG 42 (.call 171 [oT 40,oT 41])),(oG 43 (.un .not (oT 42)))]) (.cond (oT 43) (.seq (.region [(oG 44 (.call 90 [oC 5])),(oG 45 (.call 151 [(.const (.string (ByteArray.mk
 #[99,104,97,110,103,101,115]))),oT 44])),oM 6 45]) .ret) .skip)) (.seq (.region [oM 46 0,oM 47 1,oM 48 8,(oG 49 (.conv .i64 (oT 48))),oM 50 9,(oG 51 (.call 70 [oT 46,oT 47,oT 49,oT 50]))]) (.seq (.region [(oG 6 (.mv (.const
 .nilIface)))]) .ret))))))))) 52 [.tmp 6])
def a81 : AFn :=
 (.mk (.seq (.region [(oG 2 (.mv (.const (.slice none 0 0))))]) (.seq (.seq (.region [oM 6 0,(oG 7 (.eq .ptr false (oT 6) (.const (.pointer none))))]) (.cond (oT 7) (.seq (.region [(oG 2 (.mv (.const (.slice none 0 0))))]) .ret)
 .skip)) (.seq (.region [(oG 3 (.mv (.const (.slice none 0 0))))]) (.seq (.seq (.region [oM 8 0,oN 9 8,oF 10 4 9,oL 11 10,(oG 12 (.len (oT 11))),(oG 13 (.mv (oC 0)))]) (.block 0 (.loop (.seq (.region [(oG 14 (.bin .lss (oT 13) (oT
 12)))]) (.seq (.cond (oT 14) .skip (.exit 0)) (.seq (.block 1 (.seq (.region [(oG 15 (.atSlice 1 (oT 11) (oT 13))),oL 16 15,oM 5 16]) (.region [oM 17 3,oM 18 5,(oG 19 (.call 85 [oT 18])),(oG 20 (.buildSlice 1 1 [(.slice none 0 0 0
 0)] [(0,(1,(oT 19)))])),(oG 21 (.append false 1 24 (oT 17) (oT 20))),oM 3 21]))) (.region [(oG 22 (.bin .add (oT 13) (oC 1))),oM 13 22]))))))) (.seq (.region [oM 23 3,oM 2 23]) .ret))))) 24 [.tmp 2])
def a82 : AFn :=
 (.mk (.seq (.region [(oG 4 (.mv (.const .nilIface)))]) (.seq (.seq (.region [oM 5 1,(oG 6 (.eq (.iface true) false (oT 5) (.const .nilIface)))]) (.cond (oT 6) (.seq (.region [(oG 4 (.mv (.const .nilIface)))]) .ret) .skip)) (.seq
 (.region [oM 7 1,(oG 8 (.build [.nilIface] [(0,(1,(oT 7)))])),oM 9 0,(oG 10 (.build [.nilIface,(.int .i64 0)] [(0,(1,(oT 8))),(1,(1,(oT 9)))])),(oG 11 (.box (oT 10))),(oG 12 (.mkIface 251 (oT 11))),oM 4 12]) .ret))) 13 [.tmp 4])
def a83 : AFn :=
 (.mk (.seq (.region [(oG 2 (.mv (oC 0)))]) (.seq (.seq (.region [oM 3 0,(oG 4 (.eq .ptr false (oT 3) (.const (.pointer none))))]) (.cond (oT 4) (.seq (.region [(oG 2 (.mv (oC 0)))]) .ret) .skip)) (.seq (.region [oM 5 0,oN 6 5,oF 7
 4 6,oL 8 7,(oG 9 (.len (oT 8))),oM 2 9]) .ret))) 10 [.tmp 2])
def a84 : AFn :=
 (.mk (.seq (.region [(oG 2 (.mv (.const (.slice none 0 0))))]) (.seq (.seq (.region [oM 5 0,(oG 6 (.eq .ptr false (oT 5) (.const (.pointer none))))]) (.cond (oT 6) (.seq (.region [(oG 2 (.mv (.const (.slice none 0 0))))]) .ret)
 .skip)) (.seq (.region [(oG 3 (.mv (.const (.slice none 0 0))))]) (.seq (.seq (.region [oM 7 0,oN 8 7,oF 9 1 8,oL 10 9,(oG 11 (.range true (oT 10)))]) (.block 0 (.loop (.seq (.region [(oG 12 (.next false (oT 11))),oX 13 12 0])
 (.seq (.cond (oT 13) .skip (.exit 0)) (.block 1 (.seq (.region [(oG 14 (.entry (oT 11))),oX 15 14 0,oM 4 15]) (.region [oM 16 3,oM 17 4,(oG 18 (.buildSlice 1 1 [(.int .i64 0)] [(0,(1,(oT 17)))])),(oG 19 (.append false 1 8 (oT 16)
 (oT 18))),oM 3 19])))))))) (.seq (.region [oM 20 3,(oG 21 (.call 172 [oT 20]))]) (.seq (.region [oM 22 3,oM 2 22]) .ret)))))) 23 [.tmp 2])
def a85 : AFn :=
 (.mk (.seq (.region [(oG 2 (.mv (.const (.slice none 0 0))))]) (.seq (.seq (.region [oM 3 0,(oG 4 (.eq .nilSlice false (oT 3) (.const (.slice none 0 0))))]) (.cond (oT 4) (.seq (.region [(oG 2 (.mv (.const (.slice none 0 0))))])
 .ret) .skip)) (.seq (.region [(oG 5 (.buildSlice 0 1 [] [])),oM 6 0,(oG 7 (.append false 1 1 (oT 5) (oT 6))),oM 2 7]) .ret))) 8 [.tmp 2])
def a90 : AFn :=
 (.mk (.seq (.region [(oG 2 (.mv (.const .nilIface)))]) (.seq (.seq (.region [oM 3 0,(oG 4 (.bin .eql (oT 3) (oC 0)))]) (.cond (oT 4) (.seq (.region [(oG 2 (.mv (.const .nilIface)))]) .ret) .skip)) (.seq (.region [oM 5 0,(oG 6
 (.build [(.int .i64 0)] [(0,(1,(oT 5)))])),(oG 7 (.box (oT 6))),(oG 8 (.mkIface 229 (oT 7))),oM 2 8]) .ret))) 9 [.tmp 2])
def a108 : AFn :=
 (.mk (.seq (.region [(oG 2 (.mv (.const (.pointer none))))]) (.seq (.region [(oG 6 (.build [(.slice none 0 0 0 0)] [])),(oG 7 (.box (oT 6))),oM 3 7]) (.seq (.seq (.region [oM 8 0,(oG 9 (.len (oT 8))),(oG 10 (.mv (oC 0)))]) (.block
 0 (.loop (.seq (.region [(oG 11 (.bin .lss (oT 10) (oT 9)))]) (.seq (.cond (oT 11) .skip (.exit 0)) (.seq (.block 1 (.seq (.region [(oG 12 (.atSlice 2 (oT 8) (oT 10))),(oG 13 (.load 2 true (oT 12))),(oG 5 (.alloc [(.str []),(.int
 .i64 0)])),(oE (.store 2 (oT 5) (oT 13)))]) (.seq (.region [oF 14 0 5,oL 15 14,(oG 16 (.lenStr (oT 15))),(oG 17 (.bin .leq (oT 16) (oC 16)))]) (.cond (oT 17) (.region [oM 18 3,oF 19 0 5,oL 20 19,oF 21 1 5,oL 22 21,(oG 23 (.call
 198 [oT 18,oT 20,oT 22]))]) .skip)))) (.region [(oG 24 (.bin .add (oT 10) (oC 1))),oM 10 24]))))))) (.seq (.region [oM 25 3,oM 2 25]) .ret)))) 26 [.tmp 2])
def a119 : AFn :=
 (.mk (.seq (.region [(oG 2 (.mv (.const (.slice none 0 0))))]) (.seq (.region [(oG 3 (.mv (.const (.slice none 0 0))))]) (.seq (.seq (.region [oM 6 0,(oG 7 (.len (oT 6))),(oG 8 (.mv (oC 0)))]) (.block 0 (.loop (.seq (.region [(oG
 9 (.bin .lss (oT 8) (oT 7)))]) (.seq (.cond (oT 9) .skip (.exit 0)) (.seq (.block 1 (.seq (.region [(oG 10 (.atSlice 1 (oT 6) (oT 8))),oL 11 10,oM 5 11]) (.region [oM 12 3,oM 13 5,(oG 14 (.append false 1 1 (oT 12) (oT 13))),oM 3
 14]))) (.region [(oG 15 (.bin .add (oT 8) (oC 1))),oM 8 15]))))))) (.seq (.region [oM 16 3,oM 2 16]) .ret)))) 17 [.tmp 2])
def a120 : AFn :=
 (.mk (.seq (.region [(oG 2 (.mv (.const (.slice none 0 0))))]) (.seq (.region [(oG 3 (.alloc [(.int .u8 0),(.int .u8 0),(.int .u8 0),(.int .u8 0),(.int .u8 0),(.int .u8 0),(.int .u8 0),(.int .u8 0),(.int .u8 0)]))]) (.seq (.region
 [(oG 4 (.mv (oC 0)))]) (.seq (.seq (.region [oM 6 0,oM 5 6]) (.block 0 (.loop (.seq (.seq (.region [oM 7 5,(oG 8 (.bin .gtr (oT 7) (.const (.int .u64 0))))]) (.cond (oT 8) .skip (.exit 0))) (.seq (.block 1 (.seq (.region [oM 11
 4,(oG 12 (.bin .add (oT 11) (oC 1))),oM 4 12]) (.region [oM 13 4,(oG 14 (.bin .sub (oC 9) (oT 13))),oM 15 5,(oG 16 (.conv .u8 (oT 15))),(oG 17 (.atArray 9 1 (oT 3) (oT 14))),oS 17 16]))) (.region [oM 9 5,(oG 10 (.bin .shr (oT 9)
 (.const (.int .u64 8)))),oM 5 10])))))) (.seq (.region [oM 18 4,(oG 19 (.bin .sub (oC 8) (oT 18))),oM 20 4,(oG 21 (.conv .u8 (oT 20))),(oG 22 (.atArray 9 1 (oT 3) (oT 19))),oS 22 21]) (.seq (.region [(oG 23 (.buildSlice 0 1 []
 [])),oM 24 4,(oG 25 (.bin .sub (oC 8) (oT 24))),(oG 26 (.cutArray 9 1 (oT 3) (some (oT 25)) none none)),(oG 27 (.append false 1 1 (oT 23) (oT 26))),oM 2 27]) .ret)))))) 28 [.tmp 2])
def a121 : AFn :=
 (.mk (.seq (.region [(oG 2 (.mv (.const (.slice none 0 0))))]) (.seq (.region [oM 6 0,(oG 7 (.len (oT 6))),(oG 8 (.conv .u64 (oT 7))),(oG 9 (.call 120 [oT 8])),oM 3 9]) (.seq (.seq (.region [oM 10 0,(oG 11 (.len (oT 10))),(oG 12
 (.mv (oC 0)))]) (.block 0 (.loop (.seq (.region [(oG 13 (.bin .lss (oT 12) (oT 11)))]) (.seq (.cond (oT 13) .skip (.exit 0)) (.seq (.block 1 (.seq (.region [(oG 14 (.atSlice 3 (oT 10) (oT 12))),(oG 15 (.load 3 true (oT 14))),(oG 5
 (.alloc [(.str []),(.int .i64 0),(.bool false)])),(oE (.store 3 (oT 5) (oT 15)))]) (.seq (.draws [(oM 16 3,0,9),(oF 17 0 5,0,3),(oL 18 17,0,3),((oG 19 (.call 214 [oT 18])),0,6),(oF 20 2 5,0,6),(oL 21 20,0,6),((oG 22 (.call 215 [oT
 21])),4,7),((oG 23 (.buildSlice 2 1 [(.slice none 0 0 0 0),(.slice none 0 0 0 0)] [(0,(1,(oT 19))),(1,(1,(oT 22)))])),7,8),((oG 24 (.call 119 [oT 23])),8,9),((oG 25 (.append false 1 1 (oT 16) (oT 24))),9,11),(oM 3 25,10,11)])
 (.seq (.region [oF 26 2 5,oL 27 26]) (.cond (oT 27) (.region [oM 28 3,oF 29 1 5,oL 30 29,(oG 31 (.call 216 [oT 30])),(oG 32 (.append false 1 1 (oT 28) (oT 31))),oM 3 32]) .skip))))) (.region [(oG 33 (.bin .add (oT 12) (oC 1))),oM
 12 33]))))))) (.seq (.region [oM 34 3,oM 2 34]) .ret)))) 35 [.tmp 2])
def a145 : AFn :=
 (.mk (.seq (.region [(oG 2 (.mv (oC 0)))]) (.seq (.region [(oG 3 (.mv (oC 0)))]) (.seq (.seq (.region [oM 6 0,(oG 7 (.call 84 [oT 6])),(oG 8 (.len (oT 7))),(oG 9 (.mv (oC 0)))]) (.block 0 (.loop (.seq (.region [(oG 10 (.bin .lss
 (oT 9) (oT 8)))]) (.seq (.cond (oT 10) .skip (.exit 0)) (.seq (.block 1 (.seq (.region [(oG 11 (.atSlice 1 (oT 7) (oT 9))),oL 12 11,oM 5 12]) (.region [oM 13 3,oM 14 0,oN 15 14,oF 16 1 15,oL 17 16,oM 18 5,(oG 19 (.lookup (.int
 .i64) (.agg [(.slice none 0 0 0 0),(.int .i64 0)]) false (oT 17) (oT 18))),(oG 20 (.field 0 1 false (oT 19))),(oG 21 (.len (oT 20))),(oG 22 (.bin .add (oT 13) (oT 21))),oM 3 22]))) (.region [(oG 23 (.bin .add (oT 9) (oC 1))),oM 9
 23]))))))) (.seq (.region [oM 24 3,oM 2 24]) .ret)))) 25 [.tmp 2])
def a147 : AFn :=
 (.mk (.seq (.region [(oG 4 (.mv (.const (.pointer none)))),(oG 5 (.mv (oC 0)))]) (.seq (.seq (.region [oM 21 1,(oG 22 (.bin .lss (oT 21) (oC 16))),oM 23 22,(.mk (some 24) (.mv (oT 1)) (some (23,false))),(.mk (some 25) (.bin .gtr
 (oT 24) (oC 1048576)) (some (23,false))),(oG 26 (.pick (oT 23) (.const (.bool true)) (oT 25)))]) (.cond (oT 26) (.seq (.region [(oG 4 (.mv (.const (.pointer none)))),(oG 5 (.mv (oC 2)))]) .ret) .skip)) (.seq (.region [oM 27 0,oM
 28 1,(oG 29 (.build [(.ptr none),(.int .i64 0),(.int .i64 0),(.slice none 0 0 0 0),(.slice none 0 0 0 0)] [(0,(1,(oT 27))),(1,(1,(oT 28))),(2,(1,(.const (.int .i64 (-1)))))])),(oG 30 (.box (oT 29))),oM 6 30]) (.seq (.block 0
 (.loop (.seq (.seq (.region [oM 31 0,oN 32 31,oF 33 1 32,oL 34 33,(oG 35 (.len (oT 34))),(oG 36 (.bin .gtr (oT 35) (oC 0))),oM 37 36,(.mk (some 38) (.mv (oT 6)) (some (37,true))),(.mk (some 39) (.nilCheck (oT 38)) (some
 (37,true))),(.mk (some 40) (.fieldAddr 2 (oT 39)) (some (37,true))),(.mk (some 41) (.load 1 false (oT 40)) (some (37,true))),(.mk (some 42) (.bin .lss (oT 41) (oC 0)) (some (37,true))),(oG 43 (.pick (oT 37) (oT 42) (.const (.bool
 false))))]) (.cond (oT 43) .skip (.exit 0))) (.block 1 (.seq (.draws [(oM 44 0,0,13),(oN 45 44,0,13),(oF 46 1 45,0,13),(oL 47 46,0,13),(oM 48 0,0,13),(oN 49 48,0,13),(oF 50 1 49,0,13),(oL 51 50,0,13),((oG 52 (.len (oT
 51))),0,13),((oG 53 (.bin .sub (oT 52) (oC 1))),0,13),((oG 54 (.atSlice 3 (oT 47) (oT 53))),0,13),((oG 55 (.load 3 true (oT 54))),0,13),((oG 7 (.alloc [(.int .i64 0),(.slice none 0 0 0 0),(.int .i64 0)])),0,13),((oE (.store 3 (oT
 7) (oT 55))),13,14)]) (.seq (.region [oF 57 1 7,oL 58 57,(oG 59 (.call 244 [oT 58])),oM 56 59,oX 60 56 0,oX 61 56 1,oM 8 60,oM 9 61]) (.seq (.region [(oG 10 (.mv (oC 0)))]) (.seq (.seq (.region [oM 62 8,(oG 63 (.len (oT 62))),(oG
 64 (.bin .eql (oT 63) (oC 0)))]) (.cond (oT 64) (.region [oM 65 0,oF 66 0 7,oL 67 66,(oG 68 (.call 245 [oT 65,oC 3,oT 67,oC 0,(.const (.slice none 0 0))])),oM 10 68]) (.seq (.region [oM 69 6,oF 70 0 7,oL 71 70,oN 72 69,oF 73 2
 72,oS 73 71]) (.seq (.region [oM 74 9,oF 75 1 7,oL 76 75,(oG 77 (.len (oT 76))),(oG 78 (.bin .lss (oT 74) (oT 77)))]) (.cond (oT 78) (.region [oM 79 0,oF 80 0 7,oL 81 80,oM 82 9,(oG 83 (.call 245 [oT 79,oC 2,oT 81,oT 82,(.const
 (.slice none 0 0))])),oM 10 83]) .skip))))) (.seq (.region [oM 84 10,(oG 85 (.bin .neq (oT 84) (oC 0)))]) (.cond (oT 85) (.seq (.region [oM 86 10,(oG 4 (.mv (.const (.pointer none)))),oM 5 86]) .ret) .skip)))))))))) (.seq (.region
 [(oG 11 (.mv (.const (.int .i64 (-1)))))]) (.seq (.seq (.region [oM 87 0,oN 88 87,oF 89 1 88,oL 90 89,(oG 91 (.len (oT 90))),(oG 92 (.mv (oC 0)))]) (.block 2 (.loop (.seq (.region [(oG 93 (.bin .lss (oT 92) (oT 91)))]) (.seq
 (.cond (oT 93) .skip (.exit 2)) (.seq (.block 3 (.seq (.region [(oG 94 (.atSlice 3 (oT 90) (oT 92))),(oG 95 (.load 3 true (oT 94))),(oG 13 (.alloc [(.int .i64 0),(.slice none 0 0 0 0),(.int .i64 0)])),(oE (.store 3 (oT 13) (oT
 95)))]) (.seq (.region [oF 96 1 13,oL 97 96,(oG 98 (.call 246 [oT 97]))]) (.cond (oT 98) (.region [oF 99 0 13,oL 100 99,oM 11 100]) .skip)))) (.region [(oG 101 (.bin .add (oT 92) (oC 1))),oM 92 101]))))))) (.seq (.block 4 (.loop
 (.seq (.seq (.region [oM 102 0,oN 103 102,oF 104 1 103,oL 105 104,(oG 106 (.len (oT 105))),(oG 107 (.bin .gtr (oT 106) (oC 0))),oM 108 107,(.mk (some 109) (.mv (oT 0)) (some (108,true))),(.mk (some 110) (.nilCheck (oT 109)) (some
 (108,true))),(.mk (some 111) (.fieldAddr 1 (oT 110)) (some (108,true))),(.mk (some 112) (.load 1 false (oT 111)) (some (108,true))),(.mk (some 113) (.atSlice 3 (oT 112) (oC 0)) (some (108,true))),(.mk (some 114) (.fieldAddr 0 (oT
 113)) (some (108,true))),(.mk (some 115) (.load 1 false (oT 114)) (some (108,true))),(.mk (some 116) (.mv (oT 11)) (some (108,true))),(.mk (some 117) (.bin .lss (oT 115) (oT 116)) (some (108,true))),(oG 118 (.pick (oT 108) (oT
 117) (.const (.bool false))))]) (.cond (oT 118) .skip (.exit 4))) (.block 5 (.seq (.region [oM 119 0,oM 120 0,oN 121 120,oF 122 1 121,oL 123 122,(oG 124 (.atSlice 3 (oT 123) (oC 0))),oF 125 0 124,oL 126 125,(oG 127 (.call 245 [oT
 119,oC 3,oT 126,oC 0,(.const (.slice none 0 0))])),oM 14 127]) (.seq (.region [oM 128 14,(oG 129 (.bin .neq (oT 128) (oC 0)))]) (.cond (oT 129) (.seq (.region [oM 130 14,(oG 4 (.mv (.const (.pointer none)))),oM 5 130]) .ret)
 .skip))))))) (.seq (.seq (.region [oM 131 0,oN 132 131,oF 133 1 132,oL 134 133,(oG 135 (.len (oT 134))),(oG 136 (.mv (oC 0)))]) (.block 6 (.loop (.seq (.region [(oG 137 (.bin .lss (oT 136) (oT 135)))]) (.seq (.cond (oT 137) .skip
 (.exit 6)) (.seq (.block 7 (.seq (.region [oM 138 136,(oG 139 (.atSlice 3 (oT 134) (oT 136))),(oG 140 (.load 3 true (oT 139))),(oG 16 (.alloc [(.int .i64 0),(.slice none 0 0 0 0),(.int .i64 0)])),oM 15 138,(oE (.store 3 (oT 16)
 (oT 140)))]) (.seq (.region [oF 142 1 16,oL 143 142,(oG 144 (.call 244 [oT 143])),oM 141 144,oX 145 141 0,oX 146 141 1,oM 17 145,oM 18 146]) (.seq (.seq (.region [oM 147 15,(oG 148 (.bin .eql (oT 147) (oC 0))),oM 149 148,(.mk
 (some 150) (.mv (oT 11)) (some (149,true))),(.mk (some 151) (.bin .geq (oT 150) (oC 0)) (some (149,true))),(oG 152 (.pick (oT 149) (oT 151) (.const (.bool false))))]) (.cond (oT 152) (.region [oM 153 6,oM 154 17,(oG 155 (.atSlice
 1 (oT 154) (oC 0))),oL 156 155,(oG 157 (.cutSlice 1 (oT 156) (some (oC 1)) none none)),oN 158 153,oF 159 3 158,oS 159 157]) .skip)) (.seq (.region [oM 160 17,(oG 161 (.len (oT 160))),(oG 162 (.mv (oC 0)))]) (.block 8 (.loop (.seq
 (.region [(oG 163 (.bin .lss (oT 162) (oT 161)))]) (.seq (.cond (oT 163) .skip (.exit 8)) (.seq (.block 9 (.seq (.region [(oG 164 (.atSlice 1 (oT 160) (oT 162))),oL 165 164,oM 20 165]) (.seq (.region [oM 166 20,(oG 167 (.len (oT
 166))),(oG 168 (.bin .gtr (oT 167) (oC 0))),oM 169 168,(.mk (some 170) (.mv (oT 20)) (some (169,true))),(.mk (some 171) (.atSlice 1 (oT 170) (oC 0)) (some (169,true))),(.mk (some 172) (.load 1 false (oT 171)) (some
 (169,true))),(.mk (some 173) (.bin .eql (oT 172) (.const (.int .u8 0))) (some (169,true))),(oG 174 (.pick (oT 169) (oT 173) (.const (.bool false))))]) (.cond (oT 174) (.draws [(oM 175 6,0,11),(oM 176 6,0,8),(oN 177 176,0,8),(oF
 178 4 177,0,8),(oL 179 178,0,8),(oM 180 20,0,7),((oG 181 (.cutSlice 1 (oT 180) (some (oC 1)) none none)),0,7),((oG 182 (.buildSlice 1 1 [(.slice none 0 0 0 0)] [(0,(1,(oT 181)))])),0,8),((oG 183 (.append false 1 24 (oT 179) (oT
 182))),8,11),(oN 184 175,9,11),(oF 185 4 184,9,11),((oS 185 183),9,12)]) .skip)))) (.region [(oG 186 (.bin .add (oT 162) (oC 1))),oM 162 186]))))))))))) (.region [(oG 187 (.bin .add (oT 136) (oC 1))),oM 136 187]))))))) (.seq
 (.region [oM 188 6,oM 4 188,(oG 5 (.mv (oC 0)))]) .ret))))))))) 189 [.tmp 4,.tmp 5])
def a148 : AFn :=
 (.mk (.seq (.region [(oG 2 (.alloc [(.int .i64 0),(.slice none 0 0 0 0)])),(oG 3 (.mv (.const (.bool false))))]) (.seq (.region [oM 8 0,(oG 9 (.call 247 [oT 8])),oM 4 9]) (.seq (.region [oM 10 4,(oG 11 (.call 248 [oT 10])),oM 5
 11]) (.seq (.seq (.region [oM 12 4,oN 13 12,oF 14 2 13,oL 15 14,(oG 16 (.bin .neq (oT 15) (oC 0))),oM 17 16,(.mk (some 18) (.mv (oT 5)) (some (17,false))),(.mk (some 19) (.bin .gtr (oT 18) (.const (.int .u64 1073741824))) (some
 (17,false))),(oG 20 (.pick (oT 17) (.const (.bool true)) (oT 19)))]) (.cond (oT 20) (.seq (.region [(oG 21 (.build [(.int .i64 0),(.slice none 0 0 0 0)] [])),(oE (.store 2 (oT 2) (oT 21))),(oG 3 (.mv (.const (.bool false))))])
 .ret) .skip)) (.seq (.region [oM 23 0,oM 24 4,oN 25 24,oF 26 1 25,oL 27 26,(oG 28 (.cutSlice 1 (oT 23) (some (oT 27)) none none)),(oG 29 (.call 249 [oT 28])),oM 22 29,oX 30 22 0,oX 31 22 1,oM 6 30,oM 7 31]) (.seq (.region [oM 32
 5,(oG 33 (.conv .i64 (oT 32))),oM 34 6,(oG 35 (.build [(.int .i64 0),(.slice none 0 0 0 0)] [(0,(1,(oT 33))),(1,(1,(oT 34)))])),oM 36 7,(oE (.store 2 (oT 2) (oT 35))),oM 3 36]) .ret)))))) 37 [(.cell 2 2 true),.tmp 3])
def a149 : AFn :=
 (.mk (.seq (.region [(oG 2 (.mv (.const (.slice none 0 0))))]) (.seq (.region [(oG 3 (.mv (.const (.slice none 0 0))))]) (.seq (.seq (.region [oM 8 0,oN 9 8,oF 10 1 9,oL 11 10,(oG 12 (.len (oT 11))),(oG 13 (.mv (oC 0)))]) (.block
 0 (.loop (.seq (.region [(oG 14 (.bin .lss (oT 13) (oT 12)))]) (.seq (.cond (oT 14) .skip (.exit 0)) (.seq (.block 1 (.seq (.region [(oG 15 (.atSlice 2 (oT 11) (oT 13))),(oG 16 (.load 2 true (oT 15))),(oG 5 (.alloc [(.int .i64
 0),(.slice none 0 0 0 0)])),(oE (.store 2 (oT 5) (oT 16)))]) (.seq (.region [oF 17 1 5,oL 18 17,(oG 19 (.len (oT 18))),(oG 20 (.mv (oC 0)))]) (.block 2 (.loop (.seq (.region [(oG 21 (.bin .lss (oT 20) (oT 19)))]) (.seq (.cond (oT
 21) .skip (.exit 2)) (.seq (.block 3 (.seq (.region [(oG 22 (.atSlice 3 (oT 18) (oT 20))),(oG 23 (.load 3 true (oT 22))),(oG 7 (.alloc [(.str []),(.int .i64 0),(.bool false)])),(oE (.store 3 (oT 7) (oT 23)))]) (.region [oM 24
 3,(oG 25 (.load 3 true (oT 7))),(oG 26 (.call 74 [oT 24,oT 25])),oM 3 26]))) (.region [(oG 27 (.bin .add (oT 20) (oC 1))),oM 20 27]))))))))) (.region [(oG 28 (.bin .add (oT 13) (oC 1))),oM 13 28]))))))) (.seq (.region [oM 29 3,oM
 2 29]) .ret)))) 30 [.tmp 2])
def a150 : AFn :=
 (.mk (.seq (.region [(oG 6 (.mv (.const .nilIface)))]) (.seq (.seq (.region [oM 7 2,(oG 8 (.eq (.iface true) false (oT 7) (.const .nilIface)))]) (.cond (oT 8) (.seq (.region [(oG 6 (.mv (.const .nilIface)))]) .ret) .skip)) (.seq
 (.region [oM 9 2,(oG 10 (.build [.nilIface] [(0,(1,(oT 9)))])),oM 11 0,oM 12 1,(oG 13 (.build [.nilIface,(.int .i64 0),(.int .i64 0)] [(0,(1,(oT 10))),(1,(1,(oT 11))),(2,(1,(oT 12)))])),(oG 14 (.box (oT 13))),(oG 15 (.mkIface 349
 (oT 14))),oM 6 15]) .ret))) 16 [.tmp 6])
def a151 : AFn :=
 (.mk (.seq (.region [(oG 4 (.mv (.const .nilIface)))]) (.seq (.seq (.region [oM 5 1,(oG 6 (.eq (.iface true) false (oT 5) (.const .nilIface)))]) (.cond (oT 6) (.seq (.region [(oG 4 (.mv (.const .nilIface)))]) .ret) .skip)) (.seq
 (.region [oM 7 1,(oG 8 (.build [.nilIface] [(0,(1,(oT 7)))])),oM 9 0,(oG 10 (.build [.nilIface,(.str [])] [(0,(1,(oT 8))),(1,(1,(oT 9)))])),(oG 11 (.box (oT 10))),(oG 12 (.mkIface 352 (oT 11))),oM 4 12]) .ret))) 13 [.tmp 4])
def a152 : AFn :=
 (.mk (.seq (.region [(oG 4 (.mv (oC 0)))]) (.seq (.seq (.region [oM 9 0,(oG 10 (.eq .ptr false (oT 9) (.const (.pointer none))))]) (.cond (oT 10) (.seq (.region [(oG 4 (.mv (oC 1)))]) .ret) .skip)) (.seq (.seq (.region [oM 11
 1,(oG 12 (.call 250 [oT 11,(.func 251)]))]) (.cond (oT 12) (.seq (.region [(oG 4 (.mv (oC 2)))]) .ret) .skip)) (.seq (.region [oM 13 0,(oG 14 (.call 199 [oT 13])),oM 5 14]) (.seq (.seq (.region [oM 15 1,(oG 16 (.len (oT 15))),(oG
 17 (.mv (oC 0)))]) (.block 0 (.loop (.seq (.region [(oG 18 (.bin .lss (oT 17) (oT 16)))]) (.seq (.cond (oT 18) .skip (.exit 0)) (.seq (.block 1 (.seq (.region [(oG 19 (.atSlice 3 (oT 15) (oT 17))),(oG 20 (.load 3 true (oT
 19))),(oG 7 (.alloc [(.str []),(.int .i64 0),(.bool false)])),(oE (.store 3 (oT 7) (oT 20)))]) (.seq (.seq (.region [oF 21 2 7,oL 22 21,(oG 23 (.un .not (oT 22)))]) (.cond (oT 23) (.seq (.region [oM 24 5,oF 25 0 7,oL 26 25,(oG 27
 (.call 253 [oT 24,oT 26]))]) (.exit 1)) .skip)) (.seq (.region [oM 28 5,oF 29 0 7,oL 30 29,oF 31 1 7,oL 32 31,(oG 33 (.call 198 [oT 28,oT 30,oT 32])),oM 8 33]) (.seq (.region [oM 34 8,(oG 35 (.eq (.iface true) true (oT 34) (.const
 .nilIface)))]) (.cond (oT 35) (.seq (.region [oM 36 8,(oG 37 (.call 67 [oT 36])),oM 4 37]) .ret) .skip)))))) (.region [(oG 38 (.bin .add (oT 17) (oC 1))),oM 17 38]))))))) (.seq (.region [oM 39 0,oM 40 5,oN 41 40,oF 42 0 41,oL 43
 42,oN 44 39,oF 45 0 44,oS 45 43]) (.seq (.region [(oG 4 (.mv (oC 0)))]) .ret))))))) 46 [.tmp 4])
def a154 : AFn :=
 (.mk (.seq (.region [(oG 4 (.mv (.const .nilIface)))]) (.seq (.seq (.region [oM 12 1,(oG 13 (.len (oT 12))),(oG 14 (.bin .eql (oT 13) (oC 0)))]) (.cond (oT 14) (.seq (.region [(oG 4 (.mv (.const .nilIface)))]) .ret) .skip)) (.seq
 (.region [(oG 5 (.mv (.const (.slice none 0 0))))]) (.seq (.seq (.region [oM 15 1,(oG 16 (.len (oT 15))),(oG 17 (.mv (oC 0)))]) (.block 0 (.loop (.seq (.region [(oG 18 (.bin .lss (oT 17) (oT 16)))]) (.seq (.cond (oT 18) .skip
 (.exit 0)) (.seq (.block 1 (.seq (.region [oM 19 17,(oG 20 (.atSlice 1 (oT 15) (oT 17))),oL 21 20,oM 6 19,oM 7 21]) (.seq (.seq (.region [oM 22 7,(oG 23 (.len (oT 22))),(oG 24 (.bin .gtr (oT 23) (oC 16383)))]) (.cond (oT 24) (.seq
 (.region [oM 25 6,oM 26 7,(oG 27 (.len (oT 26))),(oG 28 (.call 90 [oC 7])),(oG 29 (.call 150 [oC 16383,oT 27,oT 28])),(oG 30 (.call 82 [oT 25,oT 29])),oM 4 30]) .ret) .skip)) (.region [oM 31 5,(oG 32 (.buildSlice 1 1 [(.int .u8
 0)] [(0,(1,(.const (.int .u8 0))))])),oM 33 7,(oG 34 (.buildSlice 2 1 [(.slice none 0 0 0 0),(.slice none 0 0 0 0)] [(0,(1,(oT 32))),(1,(1,(oT 33)))])),(oG 35 (.call 160 [oT 34])),(oG 36 (.append false 1 1 (oT 31) (oT 35))),oM 5
 36])))) (.region [(oG 37 (.bin .add (oT 17) (oC 1))),oM 17 37]))))))) (.seq (.region [oM 39 0,oM 40 5,(oG 41 (.len (oT 40))),(oG 42 (.call 258 [oT 39,oT 41])),oM 38 42,oX 43 38 0,oX 44 38 1,oM 8 43,oM 9 44]) (.seq (.seq (.region
 [oM 45 9,(oG 46 (.eq (.iface true) false (oT 45) (.const .nilIface)))]) (.cond (oT 46) (.region [oM 47 8,oM 48 0,oN 49 48,oF 50 0 49,oL 51 50,oM 52 8,oM 53 5,(oG 54 (.buildSlice 1 1 [(.slice none 0 0 0 0)] [(0,(1,(oT 53)))])),(oG
 55 (.call 159 [oT 51,oT 52,oT 54])),(oG 56 (.call 158 [oT 47,oT 55])),oM 9 56]) .skip)) (.seq (.seq (.region [oM 57 9,(oG 58 (.eq (.iface true) true (oT 57) (.const .nilIface)))]) (.cond (oT 58) (.seq (.region [oM 59 9,oM 4 59])
 .ret) .skip)) (.seq (.region [oM 60 0,oM 61 8,oN 62 60,oF 63 2 62,oS 63 61]) (.seq (.seq (.region [oM 64 1,(oG 65 (.len (oT 64))),(oG 66 (.mv (oC 0)))]) (.block 2 (.loop (.seq (.region [(oG 67 (.bin .lss (oT 66) (oT 65)))]) (.seq
 (.cond (oT 67) .skip (.exit 2)) (.seq (.block 3 (.seq (.region [(oG 68 (.atSlice 1 (oT 64) (oT 66))),oL 69 68,oM 11 69]) (.draws [(oM 70 0,0,11),(oM 71 0,0,8),(oN 72 71,0,8),(oF 73 4 72,0,8),(oL 74 73,0,8),(oM 75 11,0,6),((oG 76
 (.call 85 [oT 75])),0,7),((oG 77 (.buildSlice 1 1 [(.slice none 0 0 0 0)] [(0,(1,(oT 76)))])),7,8),((oG 78 (.append false 1 24 (oT 74) (oT 77))),8,11),(oN 79 70,9,11),(oF 80 4 79,9,11),((oS 80 78),9,12)]))) (.region [(oG 81 (.bin
 .add (oT 66) (oC 1))),oM 66 81]))))))) (.seq (.region [(oG 4 (.mv (.const .nilIface)))]) .ret)))))))))) 82 [.tmp 4])
def a155 : AFn :=
 (.mk (.seq (.region [(oG 2 (.mv (oC 0)))]) (.seq (.block 0 (.seq (.region [oM 4 0,(oG 5 (.eq .ptr false (oT 4) (.const (.pointer none)))),oM 3 5]) (.cond (oT 3) (.seq (.region [(oG 2 (.mv (oC 1)))]) .ret) (.seq (.region [oM 7 0,oN
 8 7,oF 9 2 8,oL 10 9,(oG 11 (.bin .lss (oT 10) (oC 0))),oM 6 11]) (.cond (oT 6) (.seq (.region [(oG 2 (.mv (oC 0)))]) .ret) .skip))))) (.seq (.draws [(oM 12 0,0,8),(oN 13 12,0,8),(oF 14 0 13,0,8),(oL 15 14,0,8),(oM 16 0,0,8),(oN
 17 16,0,8),(oF 18 2 17,0,8),(oL 19 18,0,8),((oG 20 (.call 161 [oT 15,oT 19])),0,10),(oM 2 20,9,10)]) .ret))) 21 [.tmp 2])
def a156 : AFn :=
 (.mk (.seq (.region [(oG 2 (.mv (.const (.slice none 0 0))))]) (.seq (.region [oM 4 0,(oG 5 (.call 259 [oT 4])),oM 3 5]) (.seq (.region [oM 6 3,(oG 7 (.call 260 [oT 6]))]) (.seq (.region [oM 8 3,oM 2 8]) .ret)))) 9 [.tmp 2])
def a157 : AFn :=
 (.mk (.seq (.region [(oG 1 (.box (oT 0))),(oG 2 (.mv (.const .nilFunc)))]) (.seq (.region [(oG 3 (.mkFunc (.func 261) [] [oT 1])),oM 2 3]) .ret)) 4 [.tmp 2])
def a158 : AFn :=
 (.mk (.seq (.region [(oG 4 (.mv (.const .nilIface)))]) (.seq (.region [oM 5 0,oM 6 1,(oG 7 (.call 90 [oT 6])),(oG 8 (.call 82 [oT 5,oT 7])),oM 4 8]) .ret)) 9 [.tmp 4])
def a159 : AFn :=
 (.mk (.seq (.region [(oG 6 (.mv (oC 0)))]) (.seq (.region [oM 12 0,oM 13 1,(oG 14 (.call 262 [oT 12,oT 13,(.const (.bool true))])),oM 7 14]) (.seq (.seq (.region [oM 15 7,(oG 16 (.eq (.iface true) false (oT 15) (.const
 .nilIface)))]) (.cond (oT 16) (.region [oM 17 0,oM 18 1,oM 19 2,(oG 20 (.call 263 [oT 17,oT 18,oT 19])),oM 7 20]) .skip)) (.seq (.seq (.region [oM 21 7,(oG 22 (.eq (.iface true) true (oT 21) (.const .nilIface)))]) (.cond (oT 22)
 (.seq (.region [oM 23 7,(oG 24 (.call 67 [oT 23])),oM 6 24]) .ret) .skip)) (.seq (.region [oM 25 0,oN 26 25,oF 27 1 26,oL 28 27,oM 29 1,(oG 30 (.lookup (.int .i64) (.agg [(.slice none 0 0 0 0),(.int .i64 0)]) false (oT 28) (oT
 29))),(oG 8 (.alloc [(.slice none 0 0 0 0),(.int .i64 0)])),(oE (.store 2 (oT 8) (oT 30)))]) (.seq (.region [oF 31 0 8,oL 32 31,(oG 33 (.call 85 [oT 32])),oM 9 33]) (.seq (.seq (.region [oM 34 2,(oG 35 (.len (oT 34))),(oG 36 (.mv
 (oC 0)))]) (.block 0 (.loop (.seq (.region [(oG 37 (.bin .lss (oT 36) (oT 35)))]) (.seq (.cond (oT 37) .skip (.exit 0)) (.seq (.block 1 (.seq (.region [(oG 38 (.atSlice 1 (oT 34) (oT 36))),oL 39 38,oM 11 39]) (.region [oM 40 9,oM
 41 11,(oG 42 (.append false 1 1 (oT 40) (oT 41))),oM 9 42]))) (.region [(oG 43 (.bin .add (oT 36) (oC 1))),oM 36 43]))))))) (.seq (.region [oM 44 0,oM 45 1,oM 46 9,oF 47 1 8,oL 48 47,(oG 49 (.build [(.slice none 0 0 0 0),(.int
 .i64 0)] [(0,(1,(oT 46))),(1,(1,(oT 48)))])),(oG 50 (.call 264 [oT 44,oT 45,oT 49])),oM 6 50]) .ret)))))))) 51 [.tmp 6])
def a160 : AFn :=
 (.mk (.seq (.region [(oG 2 (.mv (.const (.slice none 0 0))))]) (.seq (.region [(oG 3 (.mv (oC 0)))]) (.seq (.seq (.region [oM 10 0,(oG 11 (.len (oT 10))),(oG 12 (.mv (oC 0)))]) (.block 0 (.loop (.seq (.region [(oG 13 (.bin .lss
 (oT 12) (oT 11)))]) (.seq (.cond (oT 13) .skip (.exit 0)) (.seq (.block 1 (.seq (.region [(oG 14 (.atSlice 1 (oT 10) (oT 12))),oL 15 14,oM 5 15]) (.seq (.seq (.region [oM 16 5,(oG 17 (.len (oT 16))),oM 18 3,(oG 19 (.bin .sub (oC
 16384) (oT 18))),(oG 20 (.bin .gtr (oT 17) (oT 19)))]) (.cond (oT 20) (.seq (.region [(oG 2 (.mv (.const (.slice none 0 0))))]) .ret) .skip)) (.region [oM 21 3,oM 22 5,(oG 23 (.len (oT 22))),(oG 24 (.bin .add (oT 21) (oT 23))),oM
 3 24])))) (.region [(oG 25 (.bin .add (oT 12) (oC 1))),oM 12 25]))))))) (.seq (.region [oM 26 3,(oG 27 (.bin .add (oT 26) (oC 3))),(oG 28 (.bin .add (oT 27) (oC 4))),(oG 29 (.makeSlice 1 1 [(.int .u8 0)] (oC 0) (oT 28))),oM 30
 3,(oG 31 (.bin .shr (oT 30) (.const (.int .u64 8)))),(oG 32 (.conv .u8 (oT 31))),oM 33 3,(oG 34 (.conv .u8 (oT 33))),(oG 35 (.buildSlice 3 1 [(.int .u8 0),(.int .u8 0),(.int .u8 0)] [(0,(1,(.const (.int .u8 167)))),(1,(1,(oT
 32))),(2,(1,(oT 34)))])),(oG 36 (.append false 1 1 (oT 29) (oT 35))),oM 6 36]) (.seq (.seq (.region [oM 37 0,(oG 38 (.len (oT 37))),(oG 39 (.mv (oC 0)))]) (.block 2 (.loop (.seq (.region [(oG 40 (.bin .lss (oT 39) (oT 38)))])
 (.seq (.cond (oT 40) .skip (.exit 2)) (.seq (.block 3 (.seq (.region [(oG 41 (.atSlice 1 (oT 37) (oT 39))),oL 42 41,oM 8 42]) (.region [oM 43 6,oM 44 8,(oG 45 (.append false 1 1 (oT 43) (oT 44))),oM 6 45]))) (.region [(oG 46 (.bin
 .add (oT 39) (oC 1))),oM 39 46]))))))) (.seq (.region [oM 47 6,(oG 48 (.buildSlice 1 1 [(.slice none 0 0 0 0)] [(0,(1,(oT 47)))])),(oG 49 (.call 265 [oT 48])),oM 9 49]) (.seq (.region [oM 50 6,oM 51 9,(oG 52 (.bin .shr (oT 51)
 (.const (.int .u64 24)))),(oG 53 (.conv .u8 (oT 52))),oM 54 9,(oG 55 (.bin .shr (oT 54) (.const (.int .u64 16)))),(oG 56 (.conv .u8 (oT 55))),oM 57 9,(oG 58 (.bin .shr (oT 57) (.const (.int .u64 8)))),(oG 59 (.conv .u8 (oT
 58))),oM 60 9,(oG 61 (.conv .u8 (oT 60))),(oG 62 (.buildSlice 4 1 [(.int .u8 0),(.int .u8 0),(.int .u8 0),(.int .u8 0)] [(0,(1,(oT 53))),(1,(1,(oT 56))),(2,(1,(oT 59))),(3,(1,(oT 61)))])),(oG 63 (.append false 1 1 (oT 50) (oT
 62))),oM 2 63]) .ret))))))) 64 [.tmp 2])
def a161 : AFn :=
 (.mk (.seq (.region [(oG 4 (.mv (oC 0)))]) (.seq (.seq (.region [oM 7 0,oM 8 1,(oG 9 (.call 262 [oT 7,oT 8,(.const (.bool false))])),oM 5 9]) (.seq (.region [oM 10 5,(oG 11 (.eq (.iface true) true (oT 10) (.const .nilIface)))])
 (.cond (oT 11) (.seq (.region [oM 12 5,(oG 13 (.call 67 [oT 12])),oM 4 13]) .ret) .skip))) (.seq (.region [oM 14 0,oN 15 14,oF 16 1 15,oL 17 16,oM 18 1,(oG 19 (.lookup (.int .i64) (.agg [(.slice none 0 0 0 0),(.int .i64 0)]) false
 (oT 17) (oT 18))),(oG 20 (.field 0 1 false (oT 19))),oM 6 20]) (.seq (.region [oM 21 0,oM 22 1,oM 23 6,oM 24 6,(oG 25 (.len (oT 24))),(oG 26 (.build [(.slice none 0 0 0 0),(.int .i64 0)] [(0,(1,(oT 23))),(1,(1,(oT 25)))])),(oG 27
 (.call 264 [oT 21,oT 22,oT 26])),oM 4 27]) .ret)))) 28 [.tmp 4])
def a162 : AFn :=
 (.mk (.seq (.region [(oG 4 (.mv (oC 0)))]) (.seq (.region [oM 6 0,oM 7 1,(oG 8 (.call 262 [oT 6,oT 7,(.const (.bool false))])),oM 5 8]) (.seq (.seq (.region [oM 9 5,(oG 10 (.eq (.iface true) false (oT 9) (.const .nilIface)))])
 (.cond (oT 10) (.region [oM 11 0,(oG 12 (.call 266 [oT 11])),oM 5 12]) .skip)) (.seq (.seq (.region [oM 13 5,(oG 14 (.eq (.iface true) false (oT 13) (.const .nilIface)))]) (.cond (oT 14) (.region [oM 15 0,oN 16 15,oF 17 1 16,oL 18
 17,oM 19 1,(oE (.mapDel (.int .i64) (oT 18) (oT 19)))]) .skip)) (.seq (.region [oM 20 5,(oG 21 (.call 67 [oT 20])),oM 4 21]) .ret))))) 22 [.tmp 4])
def a163 : AFn :=
 (.mk (.seq (.region [(oG 2 (.mv (.const .nilIface)))]) (.seq (.seq (.region [oM 6 0,oN 7 6,oF 8 0 7,oL 9 8,(oG 10 (.call 84 [oT 9])),(oG 11 (.len (oT 10))),(oG 12 (.mv (oC 0)))]) (.block 0 (.loop (.seq (.region [(oG 13 (.bin .lss
 (oT 12) (oT 11)))]) (.seq (.cond (oT 13) .skip (.exit 0)) (.seq (.block 1 (.seq (.region [(oG 14 (.atSlice 1 (oT 10) (oT 12))),oL 15 14,oM 4 15]) (.seq (.region [oM 16 4,oM 17 0,oN 18 17,oF 19 2 18,oL 20 19,(oG 21 (.bin .lss (oT
 16) (oT 20)))]) (.cond (oT 21) (.seq (.region [oM 22 4,oM 23 0,oN 24 23,oF 25 0 24,oL 26 25,oM 27 4,(oG 28 (.call 162 [oT 26,oT 27])),(oG 29 (.call 158 [oT 22,oT 28])),oM 5 29]) (.seq (.region [oM 30 5,(oG 31 (.eq (.iface true)
 true (oT 30) (.const .nilIface)))]) (.cond (oT 31) (.seq (.region [oM 32 5,oM 2 32]) .ret) .skip))) .skip)))) (.region [(oG 33 (.bin .add (oT 12) (oC 1))),oM 12 33]))))))) (.seq (.region [(oG 2 (.mv (.const .nilIface)))]) .ret)))
 34 [.tmp 2])
end Go.Proofs.YtlaoookdegmnnaaGreatDoor
