/- The functions of the seat as the abstract machine's code: no program in sight. -/
import Derived.Test.YtlaoookdegmnnaaGreatDoorDbbNCodeA
namespace Go.Proofs.YtlaoookdegmnnaaGreatDoor
open Go.AM
set_option maxRecDepth 100000
def a165 : AFn :=
  (.mk (.seq (.region [(.mk (Option.some 2) (.mv (.const .nilIface)) Option.none)]) (.seq (.region [(.mk (Option.some 16) (.mv (.tmp 0)) Option.none), (.mk (Option.some 17)
  (.nilCheck (.tmp 16)) Option.none), (.mk (Option.some 18) (.fieldAddr 0 (.tmp 17)) Option.none), (.mk (Option.some 19) (.load 1 Bool.false (.tmp 18)) Option.none), (.mk
  (Option.some 20) (.call 84 [(.tmp 19)]) Option.none), (.mk (Option.some 3) (.mv (.tmp 20)) Option.none)]) (.seq (.region [(.mk (Option.some 4) (.mv (.const (.int .i64 0)))
  Option.none)]) (.seq (.seq (.region [(.mk (Option.some 21) (.mv (.tmp 3)) Option.none), (.mk (Option.some 22) (.len (.tmp 21)) Option.none), (.mk (Option.some 23) (.mv (.const
  (.int .i64 0))) Option.none)]) (.block 0 (.loop (.seq (.region [(.mk (Option.some 24) (.bin .lss (.tmp 23) (.tmp 22)) Option.none)]) (.seq (.cond (.tmp 24) .skip (.exit 0)) (.seq
  (.block 1 (.seq (.region [(.mk (Option.some 25) (.mv (.tmp 23)) Option.none), (.mk (Option.some 26) (.atSlice 1 (.tmp 21) (.tmp 23)) Option.none), (.mk (Option.some 27) (.load 1
  Bool.false (.tmp 26)) Option.none), (.mk (Option.some 5) (.mv (.tmp 25)) Option.none), (.mk (Option.some 6) (.mv (.tmp 27)) Option.none)]) (.seq (.region [(.mk (Option.some 29)
  (.mv (.tmp 0)) Option.none), (.mk (Option.some 30) (.mv (.tmp 6)) Option.none), (.mk (Option.some 31) (.call 267 [(.tmp 29), (.tmp 30)]) Option.none), (.mk (Option.some 28) (.mv
  (.tmp 31)) Option.none), (.mk (Option.some 32) (.extract (.tmp 28) 0) Option.none), (.mk (Option.some 33) (.extract (.tmp 28) 1) Option.none), (.mk (Option.some 7) (.mv (.tmp
  32)) Option.none), (.mk (Option.some 8) (.mv (.tmp 33)) Option.none)]) (.seq (.region [(.mk (Option.some 34) (.mv (.tmp 7)) Option.none), (.mk (Option.some 35) (.call 270 [(.tmp
  34)]) Option.none)]) (.cond (.tmp 35) (.region [(.mk (Option.some 36) (.mv (.tmp 5)) Option.none), (.mk (Option.some 4) (.mv (.tmp 36)) Option.none)]) .skip))))) (.region [(.mk
  (Option.some 37) (.bin .add (.tmp 23) (.const (.int .i64 1))) Option.none), (.mk (Option.some 23) (.mv (.tmp 37)) Option.none)]))))))) (.seq (.seq (.region [(.mk (Option.some 38)
  (.mv (.tmp 3)) Option.none), (.mk (Option.some 39) (.len (.tmp 38)) Option.none), (.mk (Option.some 40) (.mv (.const (.int .i64 0))) Option.none)]) (.block 2 (.loop (.seq
  (.region [(.mk (Option.some 41) (.bin .lss (.tmp 40) (.tmp 39)) Option.none)]) (.seq (.cond (.tmp 41) .skip (.exit 2)) (.seq (.block 3 (.seq (.region [(.mk (Option.some 42) (.mv
  (.tmp 40)) Option.none), (.mk (Option.some 43) (.atSlice 1 (.tmp 38) (.tmp 40)) Option.none), (.mk (Option.some 44) (.load 1 Bool.false (.tmp 43)) Option.none), (.mk (Option.some
  9) (.mv (.tmp 42)) Option.none), (.mk (Option.some 10) (.mv (.tmp 44)) Option.none)]) (.seq (.seq (.region [(.mk (Option.some 45) (.mv (.tmp 9)) Option.none), (.mk (Option.some
  46) (.mv (.tmp 4)) Option.none), (.mk (Option.some 47) (.bin .lss (.tmp 45) (.tmp 46)) Option.none)]) (.cond (.tmp 47) (.seq (.seq (.region [(.mk (Option.some 48) (.mv (.tmp 10))
  Option.none), (.mk (Option.some 49) (.mv (.tmp 0)) Option.none), (.mk (Option.some 50) (.nilCheck (.tmp 49)) Option.none), (.mk (Option.some 51) (.fieldAddr 0 (.tmp 50))
  Option.none), (.mk (Option.some 52) (.load 1 Bool.false (.tmp 51)) Option.none), (.mk (Option.some 53) (.mv (.tmp 10)) Option.none), (.mk (Option.some 54) (.call 162 [(.tmp 52),
  (.tmp 53)]) Option.none), (.mk (Option.some 55) (.call 158 [(.tmp 48), (.tmp 54)]) Option.none), (.mk (Option.some 11) (.mv (.tmp 55)) Option.none)]) (.seq (.region [(.mk
  (Option.some 56) (.mv (.tmp 11)) Option.none), (.mk (Option.some 57) (.eq (.iface Bool.true) Bool.true (.tmp 56) (.const .nilIface)) Option.none)]) (.cond (.tmp 57) (.seq
  (.region [(.mk (Option.some 58) (.mv (.tmp 11)) Option.none), (.mk (Option.some 2) (.mv (.tmp 58)) Option.none)]) .ret) .skip))) (.exit 3)) .skip)) (.seq (.region [(.mk
  (Option.some 60) (.mv (.tmp 0)) Option.none), (.mk (Option.some 61) (.mv (.tmp 10)) Option.none), (.mk (Option.some 62) (.call 267 [(.tmp 60), (.tmp 61)]) Option.none), (.mk
  (Option.some 59) (.mv (.tmp 62)) Option.none), (.mk (Option.some 63) (.extract (.tmp 59) 0) Option.none), (.mk (Option.some 64) (.extract (.tmp 59) 1) Option.none), (.mk
  (Option.some 12) (.mv (.tmp 63)) Option.none), (.mk (Option.some 13) (.mv (.tmp 64)) Option.none)]) (.seq (.seq (.region [(.mk (Option.some 65) (.mv (.tmp 9)) Option.none), (.mk
  (Option.some 66) (.mv (.tmp 4)) Option.none), (.mk (Option.some 67) (.bin .eql (.tmp 65) (.tmp 66)) Option.none), (.mk (Option.some 68) (.mv (.tmp 67)) Option.none), (.mk
  (Option.some 69) (.mv (.tmp 12)) (Option.some (68, Bool.true))), (.mk (Option.some 70) (.call 270 [(.tmp 69)]) (Option.some (68, Bool.true))), (.mk (Option.some 71) (.pick (.tmp
  68) (.tmp 70) (.const (.bool Bool.false))) Option.none)]) (.cond (.tmp 71) (.region [(.mk (Option.some 72) (.mv (.tmp 0)) Option.none), (.mk (Option.some 73) (.mv (.tmp 12))
  Option.none), (.mk (Option.some 74) (.atSlice 1 (.tmp 73) (.const (.int .i64 0))) Option.none), (.mk (Option.some 75) (.load 1 Bool.false (.tmp 74)) Option.none), (.mk
  (Option.some 76) (.cutSlice 1 (.tmp 75) (Option.some (.const (.int .i64 1))) Option.none Option.none) Option.none), (.mk (Option.some 77) (.nilCheck (.tmp 72)) Option.none), (.mk
  (Option.some 78) (.fieldAddr 3 (.tmp 77)) Option.none), (.mk Option.none (.store 1 (.tmp 78) (.tmp 76)) Option.none)]) .skip)) (.seq (.region [(.mk (Option.some 79) (.mv (.tmp
  12)) Option.none), (.mk (Option.some 80) (.len (.tmp 79)) Option.none), (.mk (Option.some 81) (.mv (.const (.int .i64 0))) Option.none)]) (.block 4 (.loop (.seq (.region [(.mk
  (Option.some 82) (.bin .lss (.tmp 81) (.tmp 80)) Option.none)]) (.seq (.cond (.tmp 82) .skip (.exit 4)) (.seq (.block 5 (.seq (.region [(.mk (Option.some 83) (.atSlice 1 (.tmp
  79) (.tmp 81)) Option.none), (.mk (Option.some 84) (.load 1 Bool.false (.tmp 83)) Option.none), (.mk (Option.some 15) (.mv (.tmp 84)) Option.none)]) (.seq (.region [(.mk
  (Option.some 85) (.mv (.tmp 15)) Option.none), (.mk (Option.some 86) (.len (.tmp 85)) Option.none), (.mk (Option.some 87) (.bin .gtr (.tmp 86) (.const (.int .i64 0)))
  Option.none), (.mk (Option.some 88) (.mv (.tmp 87)) Option.none), (.mk (Option.some 89) (.mv (.tmp 15)) (Option.some (88, Bool.true))), (.mk (Option.some 90) (.atSlice 1 (.tmp
  89) (.const (.int .i64 0))) (Option.some (88, Bool.true))), (.mk (Option.some 91) (.load 1 Bool.false (.tmp 90)) (Option.some (88, Bool.true))), (.mk (Option.some 92) (.bin .eql
  (.tmp 91) (.const (.int .u8 0))) (Option.some (88, Bool.true))), (.mk (Option.some 93) (.pick (.tmp 88) (.tmp 92) (.const (.bool Bool.false))) Option.none)]) (.cond (.tmp 93)
  (.draws [((.mk (Option.some 94) (.mv (.tmp 0)) Option.none), (0, 11)), ((.mk (Option.some 95) (.mv (.tmp 0)) Option.none), (0, 8)), ((.mk (Option.some 96) (.nilCheck (.tmp 95))
  Option.none), (0, 8)), ((.mk (Option.some 97) (.fieldAddr 4 (.tmp 96)) Option.none), (0, 8)), ((.mk (Option.some 98) (.load 1 Bool.false (.tmp 97)) Option.none), (0, 8)), ((.mk
  (Option.some 99) (.mv (.tmp 15)) Option.none), (0, 7)), ((.mk (Option.some 100) (.cutSlice 1 (.tmp 99) (Option.some (.const (.int .i64 1))) Option.none Option.none) Option.none),
  (0, 7)), ((.mk (Option.some 101) (.buildSlice 1 1 [(.slice Option.none 0 0 0 0)] [(0, (1, (.tmp 100)))]) Option.none), (0, 8)), ((.mk (Option.some 102) (.append Bool.false 1 24
  (.tmp 98) (.tmp 101)) Option.none), (8, 11)), ((.mk (Option.some 103) (.nilCheck (.tmp 94)) Option.none), (9, 11)), ((.mk (Option.some 104) (.fieldAddr 4 (.tmp 103))
  Option.none), (9, 11)), ((.mk Option.none (.store 1 (.tmp 104) (.tmp 102)) Option.none), (9, 12))]) .skip)))) (.region [(.mk (Option.some 105) (.bin .add (.tmp 81) (.const (.int
  .i64 1))) Option.none), (.mk (Option.some 81) (.mv (.tmp 105)) Option.none)])))))))))))) (.region [(.mk (Option.some 106) (.bin .add (.tmp 40) (.const (.int .i64 1)))
  Option.none), (.mk (Option.some 40) (.mv (.tmp 106)) Option.none)]))))))) (.seq (.region [(.mk (Option.some 2) (.mv (.const .nilIface)) Option.none)]) .ret)))))) 107 [(.tmp 2)])
def a172 : AFn :=
  (.mk (.seq (.region [(.mk (Option.some 3) (.mv (.tmp 0)) Option.none), (.mk (Option.some 4) (.len (.tmp 3)) Option.none), (.mk (Option.some 2) (.mv (.tmp 4)) Option.none)])
  (.region [(.mk (Option.some 5) (.mv (.tmp 0)) Option.none), (.mk (Option.some 6) (.mv (.tmp 2)) Option.none), (.mk (Option.some 7) (.mv (.tmp 2)) Option.none), (.mk (Option.some
  8) (.conv .u64 (.tmp 7)) Option.none), (.mk (Option.some 9) (.call 223 [(.tmp 8)]) Option.none), (.mk (Option.some 10) (.call 278 [(.tmp 5), (.const (.int .i64 0)), (.tmp 6),
  (.tmp 9)]) Option.none)])) 11 [])
def a173 : AFn :=
  (.mk (.seq (.region [(.mk (Option.some 1) (.box (.tmp 0)) Option.none), (.mk (Option.some 2) (.mv (.const (.bool Bool.false))) Option.none)]) (.seq (.seq (.region [(.mk
  (Option.some 3) (.fieldAddr 0 (.tmp 1)) Option.none), (.mk (Option.some 4) (.load 1 Bool.false (.tmp 3)) Option.none)]) (.block 0 (.seq (.block 3 (.seq (.block 2 (.seq (.block 1
  (.seq (.seq (.seq (.seq (.region [(.mk (Option.some 6) (.bin .eql (.tmp 4) (.const (.int .i64 1))) Option.none), (.mk (Option.some 5) (.mv (.tmp 6)) Option.none)]) (.cond (.tmp
  5) .skip (.region [(.mk (Option.some 7) (.bin .eql (.tmp 4) (.const (.int .i64 3))) Option.none), (.mk (Option.some 5) (.mv (.tmp 7)) Option.none)]))) (.cond (.tmp 5) (.exit 1)
  .skip)) (.seq (.seq (.seq (.region [(.mk (Option.some 9) (.bin .eql (.tmp 4) (.const (.int .i64 2))) Option.none), (.mk (Option.some 8) (.mv (.tmp 9)) Option.none)]) (.cond (.tmp
  8) .skip (.seq (.region [(.mk (Option.some 10) (.bin .eql (.tmp 4) (.const (.int .i64 4))) Option.none), (.mk (Option.some 8) (.mv (.tmp 10)) Option.none)]) (.cond (.tmp 8) .skip
  (.region [(.mk (Option.some 11) (.bin .eql (.tmp 4) (.const (.int .i64 6))) Option.none), (.mk (Option.some 8) (.mv (.tmp 11)) Option.none)]))))) (.cond (.tmp 8) (.exit 2)
  .skip)) (.seq (.region [(.mk (Option.some 13) (.bin .eql (.tmp 4) (.const (.int .i64 5))) Option.none), (.mk (Option.some 12) (.mv (.tmp 13)) Option.none)]) (.cond (.tmp 12)
  (.exit 3) .skip)))) (.exit 0))) (.seq (.region [(.mk (Option.some 14) (.fieldAddr 2 (.tmp 1)) Option.none), (.mk (Option.some 15) (.load 1 Bool.false (.tmp 14)) Option.none),
  (.mk (Option.some 16) (.bin .neq (.tmp 15) (.const (.int .i64 0))) Option.none)]) (.cond (.tmp 16) (.seq (.region [(.mk (Option.some 2) (.mv (.const (.bool Bool.false)))
  Option.none)]) .ret) .skip)))) (.seq (.seq (.region [(.mk (Option.some 17) (.fieldAddr 3 (.tmp 1)) Option.none), (.mk (Option.some 18) (.load 1 Bool.false (.tmp 17))
  Option.none), (.mk (Option.some 19) (.bin .eql (.tmp 18) (.const (.int .i64 0))) Option.none), (.mk (Option.some 2) (.mv (.tmp 19)) Option.none)]) .ret) (.exit 0)))) (.seq (.seq
  (.region [(.mk (Option.some 2) (.mv (.const (.bool Bool.true))) Option.none)]) .ret) (.exit 0))))) (.seq (.region [(.mk (Option.some 2) (.mv (.const (.bool Bool.false)))
  Option.none)]) .ret))) 20 [(.tmp 2)])
def a174 : AFn :=
  (.mk (.seq (.region [(.mk (Option.some 2) (.mv (.const (.bool Bool.false))) Option.none)]) (.seq (.region [(.mk (Option.some 3) (.mv (.tmp 0)) Option.none), (.mk (Option.some 4)
  (.lenStr (.tmp 3)) Option.none), (.mk (Option.some 5) (.bin .leq (.tmp 4) (.const (.int .i64 16))) Option.none), (.mk (Option.some 6) (.mv (.tmp 5)) Option.none), (.mk
  (Option.some 7) (.mv (.tmp 0)) (Option.some (6, Bool.true))), (.mk (Option.some 8) (.call 279 [(.tmp 7)]) (Option.some (6, Bool.true))), (.mk (Option.some 9) (.pick (.tmp 6)
  (.tmp 8) (.const (.bool Bool.false))) Option.none), (.mk (Option.some 2) (.mv (.tmp 9)) Option.none)]) .ret)) 10 [(.tmp 2)])
def a181 : AFn :=
  (.mk (.seq (.region [(.mk (Option.some 4) (.mv (.const (.bool Bool.false))) Option.none)]) (.seq (.seq (.region [(.mk (Option.some 6) (.mv (.tmp 0)) Option.none), (.mk (Option.some
  7) (.eq (.iface Bool.true) Bool.false (.tmp 6) (.const .nilIface)) Option.none), (.mk (Option.some 8) (.mv (.tmp 7)) Option.none), (.mk (Option.some 9) (.mv (.tmp 1))
  (Option.some (8, Bool.false))), (.mk (Option.some 10) (.eq (.iface Bool.true) Bool.false (.tmp 9) (.const .nilIface)) (Option.some (8, Bool.false))), (.mk (Option.some 11) (.pick
  (.tmp 8) (.const (.bool Bool.true)) (.tmp 10)) Option.none)]) (.cond (.tmp 11) (.seq (.region [(.mk (Option.some 12) (.mv (.tmp 0)) Option.none), (.mk (Option.some 13) (.mv (.tmp
  1)) Option.none), (.mk (Option.some 14) (.eq (.dyn [15, 17, 22, 24, 25, 26, 54, 58, 66, 77, 79, 85, 100, 103, 105, 122, 150, 155, 182, 198, 229, 245, 251, 327, 343, 349, 352,
  431, 483, 511]) Bool.false (.tmp 12) (.tmp 13)) Option.none), (.mk (Option.some 4) (.mv (.tmp 14)) Option.none)]) .ret) .skip)) (.seq (.region [(.mk (Option.some 15) (.mv (.tmp
  1)) Option.none), (.mk (Option.some 16) (.call 286 [(.tmp 15)]) Option.none), (.mk (Option.some 17) (.invoke (.tmp 16) [(430, (449, Option.none))] []) Option.none), (.mk
  (Option.some 5) (.mv (.tmp 17)) Option.none)]) (.seq (.region [(.mk (Option.some 18) (.mv (.tmp 0)) Option.none), (.mk (Option.some 19) (.mv (.tmp 1)) Option.none), (.mk
  (Option.some 20) (.mv (.tmp 5)) Option.none), (.mk (Option.some 21) (.call 287 [(.tmp 18), (.tmp 19), (.tmp 20)]) Option.none), (.mk (Option.some 4) (.mv (.tmp 21))
  Option.none)]) .ret)))) 22 [(.tmp 4)])
def a183 : AFn :=
  (.mk (.seq (.region [(.mk (Option.some 2) (.mv (.const (.slice Option.none 0 0))) Option.none)]) (.seq (.region [(.mk (Option.some 3) (.mv (.tmp 0)) Option.none), (.mk (Option.some
  4) (.call 289 [(.const (.slice Option.none 0 0)), (.tmp 3)]) Option.none), (.mk (Option.some 2) (.mv (.tmp 4)) Option.none)]) .ret)) 5 [(.tmp 2)])
def a199 : AFn :=
  (.mk (.seq (.region [(.mk (Option.some 2) (.mv (.const (.pointer Option.none))) Option.none)]) (.seq (.seq (.region [(.mk (Option.some 3) (.mv (.tmp 0)) Option.none), (.mk
  (Option.some 4) (.eq .ptr Bool.false (.tmp 3) (.const (.pointer Option.none))) Option.none)]) (.cond (.tmp 4) (.seq (.region [(.mk (Option.some 2) (.mv (.const (.pointer
  Option.none))) Option.none)]) .ret) .skip)) (.seq (.region [(.mk (Option.some 5) (.mv (.tmp 0)) Option.none), (.mk (Option.some 6) (.nilCheck (.tmp 5)) Option.none), (.mk
  (Option.some 7) (.fieldAddr 0 (.tmp 6)) Option.none), (.mk (Option.some 8) (.load 1 Bool.false (.tmp 7)) Option.none), (.mk (Option.some 9) (.call 202 [(.tmp 8)]) Option.none),
  (.mk (Option.some 10) (.build [(.slice Option.none 0 0 0 0)] [(0, (1, (.tmp 9)))]) Option.none), (.mk (Option.some 11) (.box (.tmp 10)) Option.none), (.mk (Option.some 2) (.mv
  (.tmp 11)) Option.none)]) .ret))) 12 [(.tmp 2)])
def a202 : AFn :=
  (.mk (.seq (.region [(.mk (Option.some 2) (.mv (.const (.slice Option.none 0 0))) Option.none)]) (.seq (.seq (.region [(.mk (Option.some 3) (.mv (.tmp 0)) Option.none), (.mk
  (Option.some 4) (.eq .nilSlice Bool.false (.tmp 3) (.const (.slice Option.none 0 0))) Option.none)]) (.cond (.tmp 4) (.seq (.region [(.mk (Option.some 2) (.mv (.const (.slice
  Option.none 0 0))) Option.none)]) .ret) .skip)) (.seq (.region [(.mk (Option.some 5) (.buildSlice 0 2 [] []) Option.none), (.mk (Option.some 6) (.mv (.tmp 0)) Option.none), (.mk
  (Option.some 7) (.append Bool.false 2 24 (.tmp 5) (.tmp 6)) Option.none), (.mk (Option.some 2) (.mv (.tmp 7)) Option.none)]) .ret))) 8 [(.tmp 2)])
def a204 : AFn :=
  (.mk (.region [(.mk (Option.some 4) (.mv (.tmp 0)) Option.none), (.mk (Option.some 5) (.mv (.tmp 0)) Option.none), (.mk (Option.some 6) (.len (.tmp 5)) Option.none), (.mk
  (Option.some 7) (.mv (.tmp 1)) Option.none), (.mk (Option.some 8) (.call 299 [(.tmp 4), (.tmp 6), (.tmp 7)]) Option.none)]) 9 [])
def a207 : AFn :=
  (.mk (.seq (.region [(.mk (Option.some 4) (.mv (.const (.pointer Option.none))) Option.none)]) (.seq (.region [(.mk (Option.some 5) (.mv (.tmp 0)) Option.none), (.mk (Option.some
  6) (.mv (.tmp 1)) Option.none), (.mk (Option.some 7) (.call 301 [(.const (.int .i64 0)), (.tmp 5), (.tmp 6), (.const (.bool Bool.false))]) Option.none), (.mk (Option.some 8)
  (.buildSlice 1 5 [(.int .i64 0), (.int .i64 0), (.bool Bool.false), (.int .i64 0), (.bool Bool.false)] [(0, (5, (.tmp 7)))]) Option.none), (.mk (Option.some 9) (.build [(.slice
  Option.none 0 0 0 0)] [(0, (1, (.tmp 8)))]) Option.none), (.mk (Option.some 10) (.box (.tmp 9)) Option.none), (.mk (Option.some 4) (.mv (.tmp 10)) Option.none)]) .ret)) 11 [(.tmp
  4)])
def a208 : AFn :=
  (.mk (.seq (.region [(.mk (Option.some 4) (.mv (.const (.int .i64 0))) Option.none), (.mk (Option.some 5) (.mv (.const (.bool Bool.false))) Option.none)]) (.seq (.seq (.region
  [(.mk (Option.some 8) (.mv (.tmp 0)) Option.none), (.mk (Option.some 9) (.eq .ptr Bool.false (.tmp 8) (.const (.pointer Option.none))) Option.none)]) (.cond (.tmp 9) (.seq
  (.region [(.mk (Option.some 4) (.mv (.const (.int .i64 0))) Option.none), (.mk (Option.some 5) (.mv (.const (.bool Bool.false))) Option.none)]) .ret) .skip)) (.seq (.region [(.mk
  (Option.some 11) (.mv (.tmp 0)) Option.none), (.mk (Option.some 12) (.mv (.tmp 1)) Option.none), (.mk (Option.some 13) (.call 297 [(.tmp 11), (.tmp 12)]) Option.none), (.mk
  (Option.some 10) (.mv (.tmp 13)) Option.none), (.mk (Option.some 14) (.extract (.tmp 10) 0) Option.none), (.mk (Option.some 15) (.extract (.tmp 10) 1) Option.none), (.mk
  (Option.some 6) (.mv (.tmp 14)) Option.none), (.mk (Option.some 7) (.mv (.tmp 15)) Option.none)]) (.seq (.seq (.region [(.mk (Option.some 16) (.mv (.tmp 7)) Option.none), (.mk
  (Option.some 17) (.un .not (.tmp 16)) Option.none)]) (.cond (.tmp 17) (.seq (.region [(.mk (Option.some 4) (.mv (.const (.int .i64 0))) Option.none), (.mk (Option.some 5) (.mv
  (.const (.bool Bool.false))) Option.none)]) .ret) .skip)) (.seq (.region [(.mk (Option.some 18) (.mv (.tmp 0)) Option.none), (.mk (Option.some 19) (.nilCheck (.tmp 18))
  Option.none), (.mk (Option.some 20) (.fieldAddr 0 (.tmp 19)) Option.none), (.mk (Option.some 21) (.load 1 Bool.false (.tmp 20)) Option.none), (.mk (Option.some 22) (.mv (.tmp 6))
  Option.none), (.mk (Option.some 23) (.atSlice 2 (.tmp 21) (.tmp 22)) Option.none), (.mk (Option.some 24) (.fieldAddr 1 (.tmp 23)) Option.none), (.mk (Option.some 25) (.load 1
  Bool.false (.tmp 24)) Option.none), (.mk (Option.some 4) (.mv (.tmp 25)) Option.none), (.mk (Option.some 5) (.mv (.const (.bool Bool.true))) Option.none)]) .ret))))) 26 [(.tmp
  4), (.tmp 5)])
def a209 : AFn :=
  (.mk (.seq (.region [(.mk (Option.some 2) (.box (.tmp 0)) Option.none), (.mk (Option.some 3) (.box (.tmp 1)) Option.none), (.mk (Option.some 4) (.mv (.const (.int .i64 0)))
  Option.none), (.mk (Option.some 5) (.mv (.const .nilIface)) Option.none)]) (.seq (.block 0 (.seq (.region [(.mk (Option.some 8) (.load 1 Bool.false (.tmp 2)) Option.none), (.mk
  (Option.some 9) (.eq .ptr Bool.false (.tmp 8) (.const (.pointer Option.none))) Option.none), (.mk (Option.some 7) (.mv (.tmp 9)) Option.none)]) (.cond (.tmp 7) (.seq (.region
  [(.mk (Option.some 10) (.call 90 [(.const (.int .i64 1))]) Option.none), (.mk (Option.some 4) (.mv (.const (.int .i64 0))) Option.none), (.mk (Option.some 5) (.mv (.tmp 10))
  Option.none)]) .ret) (.seq (.region [(.mk (Option.some 12) (.load 1 Bool.false (.tmp 3)) Option.none), (.mk (Option.some 13) (.bin .lss (.tmp 12) (.const (.int .i64 1)))
  Option.none), (.mk (Option.some 14) (.mv (.tmp 13)) Option.none), (.mk (Option.some 15) (.load 1 Bool.false (.tmp 3)) (Option.some (14, Bool.false))), (.mk (Option.some 16) (.bin
  .gtr (.tmp 15) (.const (.int .i64 1073741824))) (Option.some (14, Bool.false))), (.mk (Option.some 17) (.pick (.tmp 14) (.const (.bool Bool.true)) (.tmp 16)) Option.none), (.mk
  (Option.some 11) (.mv (.tmp 17)) Option.none)]) (.cond (.tmp 11) (.seq (.draws [((.mk (Option.some 18) (.load 1 Bool.false (.tmp 3)) Option.none), (0, 2)), ((.mk (Option.some 19)
  (.call 90 [(.const (.int .i64 2))]) Option.none), (0, 2)), ((.mk (Option.some 20) (.call 150 [(.const (.int .i64 1073741824)), (.tmp 18), (.tmp 19)]) Option.none), (2, 5)), ((.mk
  (Option.some 4) (.mv (.const (.int .i64 0))) Option.none), (3, 5)), ((.mk (Option.some 5) (.mv (.tmp 20)) Option.none), (3, 5))]) .ret) .skip))))) (.seq (.region [(.mk
  (Option.some 21) (.load 1 Bool.false (.tmp 2)) Option.none), (.mk (Option.some 22) (.nilCheck (.tmp 21)) Option.none), (.mk (Option.some 23) (.fieldAddr 0 (.tmp 22))
  Option.none), (.mk (Option.some 24) (.load 1 Bool.false (.tmp 23)) Option.none), (.mk (Option.some 25) (.len (.tmp 24)) Option.none), (.mk (Option.some 26) (.mkFunc (.func 303)
  [] [(.tmp 2), (.tmp 3)]) Option.none), (.mk (Option.some 27) (.call 302 [(.tmp 25), (.tmp 26)]) Option.none), (.mk (Option.some 28) (.bin .sub (.tmp 27) (.const (.int .i64 1)))
  Option.none), (.mk (Option.some 6) (.mv (.tmp 28)) Option.none)]) (.seq (.seq (.region [(.mk (Option.some 29) (.mv (.tmp 6)) Option.none), (.mk (Option.some 30) (.bin .lss (.tmp
  29) (.const (.int .i64 0))) Option.none)]) (.cond (.tmp 30) (.seq (.draws [((.mk (Option.some 31) (.load 1 Bool.false (.tmp 3)) Option.none), (0, 2)), ((.mk (Option.some 32)
  (.call 90 [(.const (.int .i64 22))]) Option.none), (0, 2)), ((.mk (Option.some 33) (.call 82 [(.tmp 31), (.tmp 32)]) Option.none), (2, 5)), ((.mk (Option.some 4) (.mv (.const
  (.int .i64 0))) Option.none), (3, 5)), ((.mk (Option.some 5) (.mv (.tmp 33)) Option.none), (3, 5))]) .ret) .skip)) (.seq (.region [(.mk (Option.some 34) (.mv (.tmp 6))
  Option.none), (.mk (Option.some 4) (.mv (.tmp 34)) Option.none), (.mk (Option.some 5) (.mv (.const .nilIface)) Option.none)]) .ret))))) 35 [(.tmp 4), (.tmp 5)])
def a210 : AFn :=
  (.mk (.seq (.region [(.mk (Option.some 2) (.mv (.const (.bool Bool.false))) Option.none)]) (.seq (.region [(.mk (Option.some 3) (.mv (.tmp 0)) Option.none), (.mk (Option.some 4)
  (.call 304 [(.tmp 3), (.func 305)]) Option.none), (.mk (Option.some 2) (.mv (.tmp 4)) Option.none)]) .ret)) 5 [(.tmp 2)])
def a211 : AFn :=
  (.mk (.seq (.region [(.mk (Option.some 2) (.mv (.const (.slice Option.none 0 0))) Option.none)]) (.seq (.region [(.mk (Option.some 3) (.mv (.const (.slice Option.none 0 0)))
  Option.none)]) (.seq (.seq (.region [(.mk (Option.some 8) (.mv (.tmp 0)) Option.none), (.mk (Option.some 9) (.nilCheck (.tmp 8)) Option.none), (.mk (Option.some 10) (.fieldAddr 1
  (.tmp 9)) Option.none), (.mk (Option.some 11) (.load 1 Bool.false (.tmp 10)) Option.none), (.mk (Option.some 12) (.call 110 [(.tmp 11)]) Option.none), (.mk (Option.some 13) (.len
  (.tmp 12)) Option.none), (.mk (Option.some 14) (.mv (.const (.int .i64 0))) Option.none)]) (.block 0 (.loop (.seq (.region [(.mk (Option.some 15) (.bin .lss (.tmp 14) (.tmp 13))
  Option.none)]) (.seq (.cond (.tmp 15) .skip (.exit 0)) (.seq (.block 1 (.seq (.region [(.mk (Option.some 16) (.atSlice 2 (.tmp 12) (.tmp 14)) Option.none), (.mk (Option.some 17)
  (.load 2 Bool.true (.tmp 16)) Option.none), (.mk (Option.some 5) (.alloc [(.str []), (.int .i64 0)]) Option.none), (.mk Option.none (.store 2 (.tmp 5) (.tmp 17)) Option.none)])
  (.seq (.draws [((.mk (Option.some 18) (.mv (.tmp 0)) Option.none), (0, 8)), ((.mk (Option.some 19) (.nilCheck (.tmp 18)) Option.none), (0, 8)), ((.mk (Option.some 20) (.fieldAddr
  2 (.tmp 19)) Option.none), (0, 8)), ((.mk (Option.some 21) (.load 1 Bool.false (.tmp 20)) Option.none), (0, 8)), ((.mk (Option.some 22) (.fieldAddr 0 (.tmp 5)) Option.none), (0,
  8)), ((.mk (Option.some 23) (.load 1 Bool.false (.tmp 22)) Option.none), (0, 8)), ((.mk (Option.some 24) (.lookup .str (.ptr Option.none) Bool.false (.tmp 21) (.tmp 23))
  Option.none), (0, 8)), ((.mk (Option.some 25) (.eq .ptr Bool.false (.tmp 24) (.const (.pointer Option.none))) Option.none), (0, 8))]) (.cond (.tmp 25) (.region [(.mk (Option.some
  26) (.mv (.tmp 3)) Option.none), (.mk (Option.some 27) (.fieldAddr 0 (.tmp 5)) Option.none), (.mk (Option.some 28) (.load 1 Bool.false (.tmp 27)) Option.none), (.mk (Option.some
  29) (.buildSlice 1 1 [(.str [])] [(0, (1, (.tmp 28)))]) Option.none), (.mk (Option.some 30) (.append Bool.false 1 16 (.tmp 26) (.tmp 29)) Option.none), (.mk (Option.some 3) (.mv
  (.tmp 30)) Option.none)]) .skip)))) (.region [(.mk (Option.some 31) (.bin .add (.tmp 14) (.const (.int .i64 1))) Option.none), (.mk (Option.some 14) (.mv (.tmp 31))
  Option.none)]))))))) (.seq (.seq (.region [(.mk (Option.some 32) (.mv (.tmp 0)) Option.none), (.mk (Option.some 33) (.nilCheck (.tmp 32)) Option.none), (.mk (Option.some 34)
  (.fieldAddr 2 (.tmp 33)) Option.none), (.mk (Option.some 35) (.load 1 Bool.false (.tmp 34)) Option.none), (.mk (Option.some 36) (.range Bool.true (.tmp 35)) Option.none)])
  (.block 2 (.loop (.seq (.region [(.mk (Option.some 37) (.next Bool.false (.tmp 36)) Option.none), (.mk (Option.some 38) (.extract (.tmp 37) 0) Option.none)]) (.seq (.cond (.tmp
  38) .skip (.exit 2)) (.block 3 (.seq (.region [(.mk (Option.some 39) (.entry (.tmp 36)) Option.none), (.mk (Option.some 40) (.extract (.tmp 39) 0) Option.none), (.mk (Option.some
  41) (.extract (.tmp 39) 1) Option.none), (.mk (Option.some 6) (.mv (.tmp 40)) Option.none), (.mk (Option.some 7) (.mv (.tmp 41)) Option.none)]) (.seq (.region [(.mk (Option.some
  42) (.mv (.tmp 7)) Option.none), (.mk (Option.some 43) (.call 133 [(.tmp 42)]) Option.none), (.mk (Option.some 44) (.call 210 [(.tmp 43)]) Option.none)]) (.cond (.tmp 44)
  (.region [(.mk (Option.some 45) (.mv (.tmp 3)) Option.none), (.mk (Option.some 46) (.mv (.tmp 6)) Option.none), (.mk (Option.some 47) (.buildSlice 1 1 [(.str [])] [(0, (1, (.tmp
  46)))]) Option.none), (.mk (Option.some 48) (.append Bool.false 1 16 (.tmp 45) (.tmp 47)) Option.none), (.mk (Option.some 3) (.mv (.tmp 48)) Option.none)]) .skip))))))))) (.seq
  (.region [(.mk (Option.some 49) (.mv (.tmp 3)) Option.none), (.mk (Option.some 50) (.call 260 [(.tmp 49)]) Option.none)]) (.seq (.region [(.mk (Option.some 51) (.mv (.tmp 3))
  Option.none), (.mk (Option.some 2) (.mv (.tmp 51)) Option.none)]) .ret)))))) 52 [(.tmp 2)])
def a212 : AFn :=
  (.mk (.seq (.region [(.mk (Option.some 8) (.mv (.const (.int .i64 0))) Option.none)]) (.seq (.region [(.mk (Option.some 13) (.mv (.tmp 0)) Option.none), (.mk (Option.some 14) (.mv
  (.tmp 1)) Option.none), (.mk (Option.some 15) (.call 209 [(.tmp 13), (.tmp 14)]) Option.none), (.mk (Option.some 12) (.mv (.tmp 15)) Option.none), (.mk (Option.some 16) (.extract
  (.tmp 12) 0) Option.none), (.mk (Option.some 17) (.extract (.tmp 12) 1) Option.none), (.mk (Option.some 9) (.mv (.tmp 16)) Option.none), (.mk (Option.some 10) (.mv (.tmp 17))
  Option.none)]) (.seq (.seq (.region [(.mk (Option.some 18) (.mv (.tmp 10)) Option.none), (.mk (Option.some 19) (.eq (.iface Bool.true) Bool.true (.tmp 18) (.const .nilIface))
  Option.none)]) (.cond (.tmp 19) (.seq (.region [(.mk (Option.some 20) (.mv (.tmp 10)) Option.none), (.mk (Option.some 21) (.call 67 [(.tmp 20)]) Option.none), (.mk (Option.some
  8) (.mv (.tmp 21)) Option.none)]) .ret) .skip)) (.seq (.region [(.mk (Option.some 22) (.mv (.tmp 0)) Option.none), (.mk (Option.some 23) (.nilCheck (.tmp 22)) Option.none), (.mk
  (Option.some 24) (.fieldAddr 0 (.tmp 23)) Option.none), (.mk (Option.some 25) (.load 1 Bool.false (.tmp 24)) Option.none), (.mk (Option.some 26) (.mv (.tmp 9)) Option.none), (.mk
  (Option.some 27) (.atSlice 5 (.tmp 25) (.tmp 26)) Option.none), (.mk (Option.some 28) (.load 5 Bool.true (.tmp 27)) Option.none), (.mk (Option.some 11) (.alloc [(.int .i64 0),
  (.int .i64 0), (.bool Bool.false), (.int .i64 0), (.bool Bool.false)]) Option.none), (.mk Option.none (.store 5 (.tmp 11) (.tmp 28)) Option.none)]) (.seq (.block 0 (.seq (.region
  [(.mk (Option.some 30) (.fieldAddr 0 (.tmp 11)) Option.none), (.mk (Option.some 31) (.load 1 Bool.false (.tmp 30)) Option.none), (.mk (Option.some 32) (.mv (.tmp 1))
  Option.none), (.mk (Option.some 33) (.bin .eql (.tmp 31) (.tmp 32)) Option.none), (.mk (Option.some 34) (.mv (.tmp 33)) Option.none), (.mk (Option.some 35) (.fieldAddr 4 (.tmp
  11)) (Option.some (34, Bool.true))), (.mk (Option.some 36) (.load 1 Bool.false (.tmp 35)) (Option.some (34, Bool.true))), (.mk (Option.some 37) (.pick (.tmp 34) (.tmp 36) (.const
  (.bool Bool.false))) Option.none), (.mk (Option.some 29) (.mv (.tmp 37)) Option.none)]) (.cond (.tmp 29) (.seq (.draws [((.mk (Option.some 38) (.mv (.tmp 0)) Option.none), (0,
  10)), ((.mk (Option.some 39) (.nilCheck (.tmp 38)) Option.none), (0, 10)), ((.mk (Option.some 40) (.fieldAddr 0 (.tmp 39)) Option.none), (0, 10)), ((.mk (Option.some 41) (.load 1
  Bool.false (.tmp 40)) Option.none), (0, 10)), ((.mk (Option.some 42) (.mv (.tmp 9)) Option.none), (0, 10)), ((.mk (Option.some 43) (.mv (.tmp 1)) Option.none), (0, 8)), ((.mk
  (Option.some 44) (.mv (.tmp 2)) Option.none), (0, 8)), ((.mk (Option.some 45) (.mv (.tmp 3)) Option.none), (0, 8)), ((.mk (Option.some 46) (.call 301 [(.tmp 43), (.tmp 44), (.tmp
  45), (.const (.bool Bool.true))]) Option.none), (0, 10)), ((.mk (Option.some 47) (.atSlice 5 (.tmp 41) (.tmp 42)) Option.none), (9, 10)), ((.mk Option.none (.store 5 (.tmp 47)
  (.tmp 46)) Option.none), (9, 11))]) (.seq (.region [(.mk (Option.some 8) (.mv (.const (.int .i64 0))) Option.none)]) .ret)) (.seq (.region [(.mk (Option.some 49) (.fieldAddr 0
  (.tmp 11)) Option.none), (.mk (Option.some 50) (.load 1 Bool.false (.tmp 49)) Option.none), (.mk (Option.some 51) (.mv (.tmp 1)) Option.none), (.mk (Option.some 52) (.bin .eql
  (.tmp 50) (.tmp 51)) Option.none), (.mk (Option.some 53) (.mv (.tmp 52)) Option.none), (.mk (Option.some 54) (.fieldAddr 3 (.tmp 11)) (Option.some (53, Bool.false))), (.mk
  (Option.some 55) (.load 1 Bool.false (.tmp 54)) (Option.some (53, Bool.false))), (.mk (Option.some 56) (.mv (.tmp 1)) (Option.some (53, Bool.false))), (.mk (Option.some 57) (.bin
  .gtr (.tmp 55) (.tmp 56)) (Option.some (53, Bool.false))), (.mk (Option.some 58) (.pick (.tmp 53) (.const (.bool Bool.true)) (.tmp 57)) Option.none), (.mk (Option.some 48) (.mv
  (.tmp 58)) Option.none)]) (.cond (.tmp 48) (.seq (.region [(.mk (Option.some 8) (.mv (.const (.int .i64 22))) Option.none)]) .ret) .skip))))) (.seq (.draws [((.mk (Option.some
  59) (.mv (.tmp 0)) Option.none), (0, 15)), ((.mk (Option.some 60) (.mv (.tmp 0)) Option.none), (0, 12)), ((.mk (Option.some 61) (.nilCheck (.tmp 60)) Option.none), (0, 12)),
  ((.mk (Option.some 62) (.fieldAddr 0 (.tmp 61)) Option.none), (0, 12)), ((.mk (Option.some 63) (.load 1 Bool.false (.tmp 62)) Option.none), (0, 12)), ((.mk (Option.some 64) (.mv
  (.tmp 9)) Option.none), (0, 12)), ((.mk (Option.some 65) (.bin .add (.tmp 64) (.const (.int .i64 1))) Option.none), (0, 12)), ((.mk (Option.some 66) (.mv (.tmp 1)) Option.none),
  (0, 10)), ((.mk (Option.some 67) (.mv (.tmp 2)) Option.none), (0, 10)), ((.mk (Option.some 68) (.mv (.tmp 3)) Option.none), (0, 10)), ((.mk (Option.some 69) (.call 301 [(.tmp
  66), (.tmp 67), (.tmp 68), (.const (.bool Bool.true))]) Option.none), (0, 11)), ((.mk (Option.some 70) (.buildSlice 1 5 [(.int .i64 0), (.int .i64 0), (.bool Bool.false), (.int
  .i64 0), (.bool Bool.false)] [(0, (5, (.tmp 69)))]) Option.none), (11, 12)), ((.mk (Option.some 71) (.call 306 [(.tmp 63), (.tmp 65), (.tmp 70)]) Option.none), (12, 15)), ((.mk
  (Option.some 72) (.nilCheck (.tmp 59)) Option.none), (13, 15)), ((.mk (Option.some 73) (.fieldAddr 0 (.tmp 72)) Option.none), (13, 15)), ((.mk Option.none (.store 1 (.tmp 73)
  (.tmp 71)) Option.none), (13, 16))]) (.seq (.region [(.mk (Option.some 8) (.mv (.const (.int .i64 0))) Option.none)]) .ret))))))) 74 [(.tmp 8)])
def a213 : AFn :=
  (.mk (.seq (.region [(.mk (Option.some 4) (.mv (.const (.int .i64 0))) Option.none)]) (.seq (.seq (.region [(.mk (Option.some 6) (.mv (.tmp 0)) Option.none), (.mk (Option.some 7)
  (.len (.tmp 6)) Option.none), (.mk (Option.some 8) (.mv (.const (.int .i64 0))) Option.none)]) (.block 0 (.loop (.seq (.region [(.mk (Option.some 9) (.bin .lss (.tmp 8) (.tmp 7))
  Option.none)]) (.seq (.cond (.tmp 9) .skip (.exit 0)) (.seq (.block 1 (.seq (.region [(.mk (Option.some 10) (.mv (.tmp 8)) Option.none), (.mk (Option.some 5) (.mv (.tmp 10))
  Option.none)]) (.seq (.region [(.mk (Option.some 11) (.mv (.tmp 1)) Option.none), (.mk (Option.some 12) (.mv (.tmp 0)) Option.none), (.mk (Option.some 13) (.mv (.tmp 5))
  Option.none), (.mk (Option.some 14) (.atSlice 1 (.tmp 12) (.tmp 13)) Option.none), (.mk (Option.some 15) (.load 1 Bool.false (.tmp 14)) Option.none), (.mk (Option.some 16) (.bin
  .eql (.tmp 11) (.tmp 15)) Option.none)]) (.cond (.tmp 16) (.seq (.region [(.mk (Option.some 17) (.mv (.tmp 5)) Option.none), (.mk (Option.some 4) (.mv (.tmp 17)) Option.none)])
  .ret) .skip)))) (.region [(.mk (Option.some 18) (.bin .add (.tmp 8) (.const (.int .i64 1))) Option.none), (.mk (Option.some 8) (.mv (.tmp 18)) Option.none)]))))))) (.seq (.region
  [(.mk (Option.some 4) (.mv (.const (.int .i64 (-1)))) Option.none)]) .ret))) 19 [(.tmp 4)])
def a214 : AFn :=
  (.mk (.seq (.region [(.mk (Option.some 2) (.mv (.const (.slice Option.none 0 0))) Option.none)]) (.seq (.region [(.mk (Option.some 3) (.mv (.tmp 0)) Option.none), (.mk (Option.some
  4) (.lenStr (.tmp 3)) Option.none), (.mk (Option.some 5) (.conv .u64 (.tmp 4)) Option.none), (.mk (Option.some 6) (.call 120 [(.tmp 5)]) Option.none), (.mk (Option.some 7) (.mv
  (.tmp 0)) Option.none), (.mk (Option.some 8) (.append Bool.true 1 1 (.tmp 6) (.tmp 7)) Option.none), (.mk (Option.some 2) (.mv (.tmp 8)) Option.none)]) .ret)) 9 [(.tmp 2)])
def a215 : AFn :=
  (.mk (.seq (.region [(.mk (Option.some 2) (.mv (.const (.slice Option.none 0 0))) Option.none)]) (.seq (.seq (.region [(.mk (Option.some 3) (.mv (.tmp 0)) Option.none)]) (.cond
  (.tmp 3) (.seq (.region [(.mk (Option.some 4) (.buildSlice 1 1 [(.int .u8 0)] [(0, (1, (.const (.int .u8 1))))]) Option.none), (.mk (Option.some 2) (.mv (.tmp 4)) Option.none)])
  .ret) .skip)) (.seq (.region [(.mk (Option.some 5) (.buildSlice 1 1 [(.int .u8 0)] [(0, (1, (.const (.int .u8 0))))]) Option.none), (.mk (Option.some 2) (.mv (.tmp 5))
  Option.none)]) .ret))) 6 [(.tmp 2)])
def a216 : AFn :=
  (.mk (.seq (.region [(.mk (Option.some 2) (.mv (.const (.slice Option.none 0 0))) Option.none)]) (.seq (.region [(.mk (Option.some 3) (.mv (.tmp 0)) Option.none), (.mk (Option.some
  4) (.conv .u64 (.tmp 3)) Option.none), (.mk (Option.some 5) (.bin .shl (.tmp 4) (.const (.int .u64 1))) Option.none), (.mk (Option.some 6) (.mv (.tmp 0)) Option.none), (.mk
  (Option.some 7) (.bin .shr (.tmp 6) (.const (.int .u64 63))) Option.none), (.mk (Option.some 8) (.conv .u64 (.tmp 7)) Option.none), (.mk (Option.some 9) (.bin .xor (.tmp 5) (.tmp
  8)) Option.none), (.mk (Option.some 10) (.call 120 [(.tmp 9)]) Option.none), (.mk (Option.some 2) (.mv (.tmp 10)) Option.none)]) .ret)) 11 [(.tmp 2)])
def a217 : AFn :=
  (.mk (.seq (.region [(.mk (Option.some 1) (.box (.tmp 0)) Option.none), (.mk (Option.some 2) (.mv (.const .nilFunc)) Option.none)]) (.seq (.region [(.mk (Option.some 3) (.mkFunc
  (.func 307) [] [(.tmp 1)]) Option.none), (.mk (Option.some 2) (.mv (.tmp 3)) Option.none)]) .ret)) 4 [(.tmp 2)])
def a219 : AFn :=
  (.mk (.seq (.region [(.mk (Option.some 4) (.mv (.const (.int .i64 0))) Option.none)]) (.seq (.seq (.region [(.mk (Option.some 12) (.mv (.tmp 0)) Option.none), (.mk (Option.some 13)
  (.eq .ptr Bool.false (.tmp 12) (.const (.pointer Option.none))) Option.none)]) (.cond (.tmp 13) (.seq (.region [(.mk (Option.some 4) (.mv (.const (.int .i64 0))) Option.none)])
  .ret) .skip)) (.seq (.region [(.mk (Option.some 5) (.mv (.const (.int .i64 (-1)))) Option.none)]) (.seq (.seq (.region [(.mk (Option.some 14) (.mv (.tmp 0)) Option.none), (.mk
  (Option.some 15) (.nilCheck (.tmp 14)) Option.none), (.mk (Option.some 16) (.fieldAddr 0 (.tmp 15)) Option.none), (.mk (Option.some 17) (.load 1 Bool.false (.tmp 16))
  Option.none), (.mk (Option.some 18) (.len (.tmp 17)) Option.none), (.mk (Option.some 19) (.mv (.const (.int .i64 0))) Option.none)]) (.block 0 (.loop (.seq (.region [(.mk
  (Option.some 20) (.bin .lss (.tmp 19) (.tmp 18)) Option.none)]) (.seq (.cond (.tmp 20) .skip (.exit 0)) (.seq (.block 1 (.seq (.region [(.mk (Option.some 21) (.mv (.tmp 19))
  Option.none), (.mk (Option.some 22) (.atSlice 5 (.tmp 17) (.tmp 19)) Option.none), (.mk (Option.some 23) (.load 5 Bool.true (.tmp 22)) Option.none), (.mk (Option.some 7) (.alloc
  [(.int .i64 0), (.int .i64 0), (.bool Bool.false), (.int .i64 0), (.bool Bool.false)]) Option.none), (.mk (Option.some 6) (.mv (.tmp 21)) Option.none), (.mk Option.none (.store 5
  (.tmp 7) (.tmp 23)) Option.none)]) (.seq (.region [(.mk (Option.some 24) (.fieldAddr 4 (.tmp 7)) Option.none), (.mk (Option.some 25) (.load 1 Bool.false (.tmp 24)) Option.none),
  (.mk (Option.some 26) (.un .not (.tmp 25)) Option.none), (.mk (Option.some 27) (.mv (.tmp 26)) Option.none), (.mk (Option.some 28) (.fieldAddr 0 (.tmp 7)) (Option.some (27,
  Bool.true))), (.mk (Option.some 29) (.load 1 Bool.false (.tmp 28)) (Option.some (27, Bool.true))), (.mk (Option.some 30) (.mv (.tmp 1)) (Option.some (27, Bool.true))), (.mk
  (Option.some 31) (.bin .lss (.tmp 29) (.tmp 30)) (Option.some (27, Bool.true))), (.mk (Option.some 32) (.pick (.tmp 27) (.tmp 31) (.const (.bool Bool.false))) Option.none)])
  (.cond (.tmp 32) (.region [(.mk (Option.some 33) (.mv (.tmp 6)) Option.none), (.mk (Option.some 5) (.mv (.tmp 33)) Option.none)]) .skip)))) (.region [(.mk (Option.some 34) (.bin
  .add (.tmp 19) (.const (.int .i64 1))) Option.none), (.mk (Option.some 19) (.mv (.tmp 34)) Option.none)]))))))) (.seq (.region [(.mk (Option.some 8) (.mv (.const (.slice
  Option.none 0 0))) Option.none)]) (.seq (.seq (.region [(.mk (Option.some 35) (.mv (.tmp 0)) Option.none), (.mk (Option.some 36) (.nilCheck (.tmp 35)) Option.none), (.mk
  (Option.some 37) (.fieldAddr 0 (.tmp 36)) Option.none), (.mk (Option.some 38) (.load 1 Bool.false (.tmp 37)) Option.none), (.mk (Option.some 39) (.len (.tmp 38)) Option.none),
  (.mk (Option.some 40) (.mv (.const (.int .i64 0))) Option.none)]) (.block 2 (.loop (.seq (.region [(.mk (Option.some 41) (.bin .lss (.tmp 40) (.tmp 39)) Option.none)]) (.seq
  (.cond (.tmp 41) .skip (.exit 2)) (.seq (.block 3 (.seq (.region [(.mk (Option.some 42) (.mv (.tmp 40)) Option.none), (.mk (Option.some 43) (.atSlice 5 (.tmp 38) (.tmp 40))
  Option.none), (.mk (Option.some 44) (.load 5 Bool.true (.tmp 43)) Option.none), (.mk (Option.some 10) (.alloc [(.int .i64 0), (.int .i64 0), (.bool Bool.false), (.int .i64 0),
  (.bool Bool.false)]) Option.none), (.mk (Option.some 9) (.mv (.tmp 42)) Option.none), (.mk Option.none (.store 5 (.tmp 10) (.tmp 44)) Option.none)]) (.seq (.region [(.mk
  (Option.some 45) (.mv (.tmp 9)) Option.none), (.mk (Option.some 46) (.mv (.tmp 5)) Option.none), (.mk (Option.some 47) (.bin .geq (.tmp 45) (.tmp 46)) Option.none), (.mk
  (Option.some 48) (.mv (.tmp 47)) Option.none), (.mk (Option.some 49) (.fieldAddr 4 (.tmp 10)) (Option.some (48, Bool.false))), (.mk (Option.some 50) (.load 1 Bool.false (.tmp
  49)) (Option.some (48, Bool.false))), (.mk (Option.some 51) (.pick (.tmp 48) (.const (.bool Bool.true)) (.tmp 50)) Option.none), (.mk (Option.some 52) (.mv (.tmp 51))
  Option.none), (.mk (Option.some 53) (.fieldAddr 0 (.tmp 10)) (Option.some (52, Bool.false))), (.mk (Option.some 54) (.load 1 Bool.false (.tmp 53)) (Option.some (52,
  Bool.false))), (.mk (Option.some 55) (.mv (.tmp 1)) (Option.some (52, Bool.false))), (.mk (Option.some 56) (.bin .geq (.tmp 54) (.tmp 55)) (Option.some (52, Bool.false))), (.mk
  (Option.some 57) (.pick (.tmp 52) (.const (.bool Bool.true)) (.tmp 56)) Option.none)]) (.cond (.tmp 57) (.region [(.mk (Option.some 58) (.mv (.tmp 8)) Option.none), (.mk
  (Option.some 59) (.load 5 Bool.true (.tmp 10)) Option.none), (.mk (Option.some 60) (.buildSlice 1 5 [(.int .i64 0), (.int .i64 0), (.bool Bool.false), (.int .i64 0), (.bool
  Bool.false)] [(0, (5, (.tmp 59)))]) Option.none), (.mk (Option.some 61) (.append Bool.false 5 40 (.tmp 58) (.tmp 60)) Option.none), (.mk (Option.some 8) (.mv (.tmp 61))
  Option.none)]) .skip)))) (.region [(.mk (Option.some 62) (.bin .add (.tmp 40) (.const (.int .i64 1))) Option.none), (.mk (Option.some 40) (.mv (.tmp 62)) Option.none)])))))))
  (.seq (.region [(.mk (Option.some 63) (.mv (.tmp 0)) Option.none), (.mk (Option.some 64) (.nilCheck (.tmp 63)) Option.none), (.mk (Option.some 65) (.fieldAddr 0 (.tmp 64))
  Option.none), (.mk (Option.some 66) (.load 1 Bool.false (.tmp 65)) Option.none), (.mk (Option.some 67) (.len (.tmp 66)) Option.none), (.mk (Option.some 68) (.mv (.tmp 8))
  Option.none), (.mk (Option.some 69) (.len (.tmp 68)) Option.none), (.mk (Option.some 70) (.bin .sub (.tmp 67) (.tmp 69)) Option.none), (.mk (Option.some 11) (.mv (.tmp 70))
  Option.none)]) (.seq (.region [(.mk (Option.some 71) (.mv (.tmp 0)) Option.none), (.mk (Option.some 72) (.mv (.tmp 8)) Option.none), (.mk (Option.some 73) (.nilCheck (.tmp 71))
  Option.none), (.mk (Option.some 74) (.fieldAddr 0 (.tmp 73)) Option.none), (.mk Option.none (.store 1 (.tmp 74) (.tmp 72)) Option.none)]) (.seq (.region [(.mk (Option.some 75)
  (.mv (.tmp 11)) Option.none), (.mk (Option.some 4) (.mv (.tmp 75)) Option.none)]) .ret))))))))) 76 [(.tmp 4)])
def a220 : AFn :=
  (.mk (.seq (.region [(.mk (Option.some 3) (.box (.tmp 1)) Option.none), (.mk (Option.some 4) (.mv (.const (.int .i64 0))) Option.none)]) (.seq (.seq (.region [(.mk (Option.some 5)
  (.mv (.tmp 0)) Option.none), (.mk (Option.some 6) (.eq .ptr Bool.false (.tmp 5) (.const (.pointer Option.none))) Option.none)]) (.cond (.tmp 6) (.seq (.region [(.mk (Option.some
  4) (.mv (.const (.int .i64 (-1)))) Option.none)]) .ret) .skip)) (.seq (.region [(.mk (Option.some 7) (.mv (.tmp 0)) Option.none), (.mk (Option.some 8) (.nilCheck (.tmp 7))
  Option.none), (.mk (Option.some 9) (.fieldAddr 0 (.tmp 8)) Option.none), (.mk (Option.some 10) (.load 1 Bool.false (.tmp 9)) Option.none), (.mk (Option.some 11) (.mkFunc (.func
  310) [] [(.tmp 3)]) Option.none), (.mk (Option.some 12) (.call 309 [(.tmp 10), (.tmp 11)]) Option.none), (.mk (Option.some 4) (.mv (.tmp 12)) Option.none)]) .ret))) 13 [(.tmp
  4)])
def a221 : AFn :=
  (.mk (.seq (.region [(.mk (Option.some 1) (.box (.tmp 0)) Option.none), (.mk (Option.some 2) (.mv (.const .nilFunc)) Option.none)]) (.seq (.region [(.mk (Option.some 3) (.mkFunc
  (.func 311) [] [(.tmp 1)]) Option.none), (.mk (Option.some 2) (.mv (.tmp 3)) Option.none)]) .ret)) 4 [(.tmp 2)])
def a222 : AFn :=
  (.mk (.seq (.region [(.mk (Option.some 10) (.mv (.const (.bool Bool.true))) Option.none)]) (.seq (.region [(.mk (Option.some 11) (.mv (.const (.bool Bool.true))) Option.none)])
  (.block 0 (.loop (.block 1 (.seq (.region [(.mk (Option.some 21) (.mv (.tmp 2)) Option.none), (.mk (Option.some 22) (.mv (.tmp 1)) Option.none), (.mk (Option.some 23) (.bin .sub
  (.tmp 21) (.tmp 22)) Option.none), (.mk (Option.some 12) (.mv (.tmp 23)) Option.none)]) (.seq (.seq (.region [(.mk (Option.some 24) (.mv (.tmp 12)) Option.none), (.mk
  (Option.some 25) (.bin .leq (.tmp 24) (.const (.int .i64 12))) Option.none)]) (.cond (.tmp 25) (.seq (.region [(.mk (Option.some 26) (.mv (.tmp 0)) Option.none), (.mk
  (Option.some 27) (.mv (.tmp 1)) Option.none), (.mk (Option.some 28) (.mv (.tmp 2)) Option.none), (.mk (Option.some 29) (.mv (.tmp 4)) Option.none), (.mk (Option.some 30) (.call
  312 [(.tmp 26), (.tmp 27), (.tmp 28), (.tmp 29)]) Option.none)]) .ret) .skip)) (.seq (.seq (.region [(.mk (Option.some 31) (.mv (.tmp 3)) Option.none), (.mk (Option.some 32)
  (.bin .eql (.tmp 31) (.const (.int .i64 0))) Option.none)]) (.cond (.tmp 32) (.seq (.region [(.mk (Option.some 33) (.mv (.tmp 0)) Option.none), (.mk (Option.some 34) (.mv (.tmp
  1)) Option.none), (.mk (Option.some 35) (.mv (.tmp 2)) Option.none), (.mk (Option.some 36) (.mv (.tmp 4)) Option.none), (.mk (Option.some 37) (.call 313 [(.tmp 33), (.tmp 34),
  (.tmp 35), (.tmp 36)]) Option.none)]) .ret) .skip)) (.seq (.seq (.region [(.mk (Option.some 38) (.mv (.tmp 10)) Option.none), (.mk (Option.some 39) (.un .not (.tmp 38))
  Option.none)]) (.cond (.tmp 39) (.seq (.region [(.mk (Option.some 40) (.mv (.tmp 0)) Option.none), (.mk (Option.some 41) (.mv (.tmp 1)) Option.none), (.mk (Option.some 42) (.mv
  (.tmp 2)) Option.none), (.mk (Option.some 43) (.mv (.tmp 4)) Option.none), (.mk (Option.some 44) (.call 314 [(.tmp 40), (.tmp 41), (.tmp 42), (.tmp 43)]) Option.none)]) (.region
  [(.mk (Option.some 45) (.mv (.tmp 3)) Option.none), (.mk (Option.some 46) (.bin .sub (.tmp 45) (.const (.int .i64 1))) Option.none), (.mk (Option.some 3) (.mv (.tmp 46))
  Option.none)])) .skip)) (.seq (.region [(.mk (Option.some 48) (.mv (.tmp 0)) Option.none), (.mk (Option.some 49) (.mv (.tmp 1)) Option.none), (.mk (Option.some 50) (.mv (.tmp 2))
  Option.none), (.mk (Option.some 51) (.mv (.tmp 4)) Option.none), (.mk (Option.some 52) (.call 315 [(.tmp 48), (.tmp 49), (.tmp 50), (.tmp 51)]) Option.none), (.mk (Option.some
  47) (.mv (.tmp 52)) Option.none), (.mk (Option.some 53) (.extract (.tmp 47) 0) Option.none), (.mk (Option.some 54) (.extract (.tmp 47) 1) Option.none), (.mk (Option.some 13) (.mv
  (.tmp 53)) Option.none), (.mk (Option.some 14) (.mv (.tmp 54)) Option.none)]) (.seq (.seq (.region [(.mk (Option.some 55) (.mv (.tmp 14)) Option.none), (.mk (Option.some 56)
  (.bin .eql (.tmp 55) (.const (.int .i64 2))) Option.none)]) (.cond (.tmp 56) (.seq (.region [(.mk (Option.some 57) (.mv (.tmp 0)) Option.none), (.mk (Option.some 58) (.mv (.tmp
  1)) Option.none), (.mk (Option.some 59) (.mv (.tmp 2)) Option.none), (.mk (Option.some 60) (.mv (.tmp 4)) Option.none), (.mk (Option.some 61) (.call 316 [(.tmp 57), (.tmp 58),
  (.tmp 59), (.tmp 60)]) Option.none)]) (.seq (.region [(.mk (Option.some 62) (.mv (.tmp 2)) Option.none), (.mk (Option.some 63) (.bin .sub (.tmp 62) (.const (.int .i64 1)))
  Option.none), (.mk (Option.some 64) (.mv (.tmp 13)) Option.none), (.mk (Option.some 65) (.mv (.tmp 1)) Option.none), (.mk (Option.some 66) (.bin .sub (.tmp 64) (.tmp 65))
  Option.none), (.mk (Option.some 67) (.bin .sub (.tmp 63) (.tmp 66)) Option.none), (.mk (Option.some 13) (.mv (.tmp 67)) Option.none)]) (.region [(.mk (Option.some 14) (.mv
  (.const (.int .i64 1))) Option.none)]))) .skip)) (.seq (.seq (.region [(.mk (Option.some 68) (.mv (.tmp 10)) Option.none), (.mk (Option.some 69) (.mv (.tmp 68)) Option.none),
  (.mk (Option.some 70) (.mv (.tmp 11)) (Option.some (69, Bool.true))), (.mk (Option.some 71) (.pick (.tmp 69) (.tmp 70) (.const (.bool Bool.false))) Option.none), (.mk
  (Option.some 72) (.mv (.tmp 71)) Option.none), (.mk (Option.some 73) (.mv (.tmp 14)) (Option.some (72, Bool.true))), (.mk (Option.some 74) (.bin .eql (.tmp 73) (.const (.int .i64
  1))) (Option.some (72, Bool.true))), (.mk (Option.some 75) (.pick (.tmp 72) (.tmp 74) (.const (.bool Bool.false))) Option.none)]) (.cond (.tmp 75) (.seq (.region [(.mk
  (Option.some 76) (.mv (.tmp 0)) Option.none), (.mk (Option.some 77) (.mv (.tmp 1)) Option.none), (.mk (Option.some 78) (.mv (.tmp 2)) Option.none), (.mk (Option.some 79) (.mv
  (.tmp 4)) Option.none), (.mk (Option.some 80) (.call 317 [(.tmp 76), (.tmp 77), (.tmp 78), (.tmp 79)]) Option.none)]) (.cond (.tmp 80) .ret .skip)) .skip)) (.seq (.seq (.draws
  [((.mk (Option.some 81) (.mv (.tmp 1)) Option.none), (0, 13)), ((.mk (Option.some 82) (.bin .gtr (.tmp 81) (.const (.int .i64 0))) Option.none), (0, 13)), ((.mk (Option.some 83)
  (.mv (.tmp 82)) Option.none), (0, 13)), ((.mk (Option.some 84) (.mv (.tmp 4)) (Option.some (83, Bool.true))), (0, 13)), ((.mk (Option.some 85) (.mv (.tmp 0)) (Option.some (83,
  Bool.true))), (0, 13)), ((.mk (Option.some 86) (.mv (.tmp 1)) (Option.some (83, Bool.true))), (0, 13)), ((.mk (Option.some 87) (.bin .sub (.tmp 86) (.const (.int .i64 1)))
  (Option.some (83, Bool.true))), (0, 13)), ((.mk (Option.some 88) (.atSlice 2 (.tmp 85) (.tmp 87)) (Option.some (83, Bool.true))), (0, 13)), ((.mk (Option.some 89) (.load 2
  Bool.true (.tmp 88)) (Option.some (83, Bool.true))), (0, 13)), ((.mk (Option.some 90) (.mv (.tmp 0)) (Option.some (83, Bool.true))), (0, 13)), ((.mk (Option.some 91) (.mv (.tmp
  13)) (Option.some (83, Bool.true))), (0, 13)), ((.mk (Option.some 92) (.atSlice 2 (.tmp 90) (.tmp 91)) (Option.some (83, Bool.true))), (0, 13)), ((.mk (Option.some 93) (.load 2
  Bool.true (.tmp 92)) (Option.some (83, Bool.true))), (0, 13)), ((.mk (Option.some 94) (.callv (.tmp 84) [(.tmp 89), (.tmp 93)]) (Option.some (83, Bool.true))), (0, 17)), ((.mk
  (Option.some 95) (.bin .lss (.tmp 94) (.const (.int .i64 0))) (Option.some (83, Bool.true))), (14, 17)), ((.mk (Option.some 96) (.un .not (.tmp 95)) (Option.some (83,
  Bool.true))), (14, 17)), ((.mk (Option.some 97) (.pick (.tmp 83) (.tmp 96) (.const (.bool Bool.false))) Option.none), (14, 17))]) (.cond (.tmp 97) (.seq (.region [(.mk
  (Option.some 98) (.mv (.tmp 0)) Option.none), (.mk (Option.some 99) (.mv (.tmp 1)) Option.none), (.mk (Option.some 100) (.mv (.tmp 2)) Option.none), (.mk (Option.some 101) (.mv
  (.tmp 13)) Option.none), (.mk (Option.some 102) (.mv (.tmp 4)) Option.none), (.mk (Option.some 103) (.call 318 [(.tmp 98), (.tmp 99), (.tmp 100), (.tmp 101), (.tmp 102)])
  Option.none), (.mk (Option.some 15) (.mv (.tmp 103)) Option.none)]) (.seq (.region [(.mk (Option.some 104) (.mv (.tmp 15)) Option.none), (.mk (Option.some 1) (.mv (.tmp 104))
  Option.none)]) (.exit 1))) .skip)) (.seq (.region [(.mk (Option.some 106) (.mv (.tmp 0)) Option.none), (.mk (Option.some 107) (.mv (.tmp 1)) Option.none), (.mk (Option.some 108)
  (.mv (.tmp 2)) Option.none), (.mk (Option.some 109) (.mv (.tmp 13)) Option.none), (.mk (Option.some 110) (.mv (.tmp 4)) Option.none), (.mk (Option.some 111) (.call 319 [(.tmp
  106), (.tmp 107), (.tmp 108), (.tmp 109), (.tmp 110)]) Option.none), (.mk (Option.some 105) (.mv (.tmp 111)) Option.none), (.mk (Option.some 112) (.extract (.tmp 105) 0)
  Option.none), (.mk (Option.some 113) (.extract (.tmp 105) 1) Option.none), (.mk (Option.some 16) (.mv (.tmp 112)) Option.none), (.mk (Option.some 17) (.mv (.tmp 113))
  Option.none)]) (.seq (.region [(.mk (Option.some 114) (.mv (.tmp 17)) Option.none), (.mk (Option.some 11) (.mv (.tmp 114)) Option.none)]) (.seq (.region [(.mk (Option.some 115)
  (.mv (.tmp 16)) Option.none), (.mk (Option.some 116) (.mv (.tmp 1)) Option.none), (.mk (Option.some 117) (.bin .sub (.tmp 115) (.tmp 116)) Option.none), (.mk (Option.some 118)
  (.mv (.tmp 2)) Option.none), (.mk (Option.some 119) (.mv (.tmp 16)) Option.none), (.mk (Option.some 120) (.bin .sub (.tmp 118) (.tmp 119)) Option.none), (.mk (Option.some 18)
  (.mv (.tmp 117)) Option.none), (.mk (Option.some 19) (.mv (.tmp 120)) Option.none)]) (.seq (.region [(.mk (Option.some 121) (.mv (.tmp 12)) Option.none), (.mk (Option.some 122)
  (.bin .quo (.tmp 121) (.const (.int .i64 8))) Option.none), (.mk (Option.some 20) (.mv (.tmp 122)) Option.none)]) (.seq (.region [(.mk (Option.some 123) (.mv (.tmp 18))
  Option.none), (.mk (Option.some 124) (.mv (.tmp 19)) Option.none), (.mk (Option.some 125) (.bin .lss (.tmp 123) (.tmp 124)) Option.none)]) (.cond (.tmp 125) (.seq (.region [(.mk
  (Option.some 126) (.mv (.tmp 18)) Option.none), (.mk (Option.some 127) (.mv (.tmp 20)) Option.none), (.mk (Option.some 128) (.bin .geq (.tmp 126) (.tmp 127)) Option.none), (.mk
  (Option.some 10) (.mv (.tmp 128)) Option.none)]) (.seq (.region [(.mk (Option.some 129) (.mv (.tmp 0)) Option.none), (.mk (Option.some 130) (.mv (.tmp 1)) Option.none), (.mk
  (Option.some 131) (.mv (.tmp 16)) Option.none), (.mk (Option.some 132) (.mv (.tmp 3)) Option.none), (.mk (Option.some 133) (.mv (.tmp 4)) Option.none), (.mk (Option.some 134)
  (.call 222 [(.tmp 129), (.tmp 130), (.tmp 131), (.tmp 132), (.tmp 133)]) Option.none)]) (.region [(.mk (Option.some 135) (.mv (.tmp 16)) Option.none), (.mk (Option.some 136)
  (.bin .add (.tmp 135) (.const (.int .i64 1))) Option.none), (.mk (Option.some 1) (.mv (.tmp 136)) Option.none)]))) (.seq (.region [(.mk (Option.some 137) (.mv (.tmp 19))
  Option.none), (.mk (Option.some 138) (.mv (.tmp 20)) Option.none), (.mk (Option.some 139) (.bin .geq (.tmp 137) (.tmp 138)) Option.none), (.mk (Option.some 10) (.mv (.tmp 139))
  Option.none)]) (.seq (.region [(.mk (Option.some 140) (.mv (.tmp 0)) Option.none), (.mk (Option.some 141) (.mv (.tmp 16)) Option.none), (.mk (Option.some 142) (.bin .add (.tmp
  141) (.const (.int .i64 1))) Option.none), (.mk (Option.some 143) (.mv (.tmp 2)) Option.none), (.mk (Option.some 144) (.mv (.tmp 3)) Option.none), (.mk (Option.some 145) (.mv
  (.tmp 4)) Option.none), (.mk (Option.some 146) (.call 222 [(.tmp 140), (.tmp 142), (.tmp 143), (.tmp 144), (.tmp 145)]) Option.none)]) (.region [(.mk (Option.some 147) (.mv (.tmp
  16)) Option.none), (.mk (Option.some 2) (.mv (.tmp 147)) Option.none)])))))))))))))))))))))) 148 [])
def a223 : AFn :=
  (.mk (.seq (.region [(.mk (Option.some 2) (.mv (.const (.int .i64 0))) Option.none)]) (.seq (.cond (.const (.bool Bool.false)) (.seq (.region [(.mk (Option.some 3) (.mv (.tmp 0))
  Option.none), (.mk (Option.some 4) (.conv .u32 (.tmp 3)) Option.none), (.mk (Option.some 5) (.call 320 [(.tmp 4)]) Option.none), (.mk (Option.some 2) (.mv (.tmp 5))
  Option.none)]) .ret) .skip) (.seq (.region [(.mk (Option.some 6) (.mv (.tmp 0)) Option.none), (.mk (Option.some 7) (.call 321 [(.tmp 6)]) Option.none), (.mk (Option.some 2) (.mv
  (.tmp 7)) Option.none)]) .ret))) 8 [(.tmp 2)])
def a226 : AFn :=
  (.mk (.seq (.region [(.mk (Option.some 5) (.load 1 Bool.false (.tmp 1)) Option.none), (.mk (Option.some 6) (.len (.tmp 5)) Option.none), (.mk (Option.some 7) (.mv (.const (.int
  .i64 0))) Option.none)]) (.block 0 (.loop (.seq (.region [(.mk (Option.some 8) (.bin .lss (.tmp 7) (.tmp 6)) Option.none)]) (.seq (.cond (.tmp 8) .skip (.exit 0)) (.seq (.block 1
  (.seq (.region [(.mk (Option.some 9) (.atSlice 1 (.tmp 5) (.tmp 7)) Option.none), (.mk (Option.some 10) (.load 1 Bool.false (.tmp 9)) Option.none), (.mk (Option.some 4) (.mv
  (.tmp 10)) Option.none)]) (.seq (.region [(.mk (Option.some 11) (.mv (.tmp 0)) Option.none), (.mk (Option.some 12) (.mv (.tmp 4)) Option.none), (.mk (Option.some 13) (.callv
  (.tmp 11) [(.tmp 12)]) Option.none), (.mk (Option.some 14) (.un .not (.tmp 13)) Option.none)]) (.cond (.tmp 14) .ret .skip)))) (.region [(.mk (Option.some 15) (.bin .add (.tmp 7)
  (.const (.int .i64 1))) Option.none), (.mk (Option.some 7) (.mv (.tmp 15)) Option.none)]))))))) 16 [])
def a227 : AFn :=
  (.mk (.seq (.region [(.mk (Option.some 2) (.mv (.const (.slice Option.none 0 0))) Option.none)]) (.seq (.seq (.region [(.mk (Option.some 3) (.mv (.tmp 0)) Option.none), (.mk
  (Option.some 4) (.eq .nilSlice Bool.false (.tmp 3) (.const (.slice Option.none 0 0))) Option.none)]) (.cond (.tmp 4) (.seq (.region [(.mk (Option.some 2) (.mv (.const (.slice
  Option.none 0 0))) Option.none)]) .ret) .skip)) (.seq (.region [(.mk (Option.some 5) (.buildSlice 0 5 [] []) Option.none), (.mk (Option.some 6) (.mv (.tmp 0)) Option.none), (.mk
  (Option.some 7) (.append Bool.false 5 40 (.tmp 5) (.tmp 6)) Option.none), (.mk (Option.some 2) (.mv (.tmp 7)) Option.none)]) .ret))) 8 [(.tmp 2)])
def a250 : AFn :=
  (.mk (.seq (.region [(.mk (Option.some 4) (.mv (.const (.bool Bool.false))) Option.none)]) (.seq (.region [(.mk (Option.some 5) (.mv (.tmp 0)) Option.none), (.mk (Option.some 6)
  (.mv (.tmp 1)) Option.none), (.mk (Option.some 7) (.call 342 [(.tmp 5), (.tmp 6)]) Option.none), (.mk (Option.some 8) (.bin .geq (.tmp 7) (.const (.int .i64 0))) Option.none),
  (.mk (Option.some 4) (.mv (.tmp 8)) Option.none)]) .ret)) 9 [(.tmp 4)])
def a251 : AFn :=
  (.mk (.seq (.region [(.mk (Option.some 1) (.box (.tmp 0)) Option.none), (.mk (Option.some 2) (.mv (.const (.bool Bool.false))) Option.none)]) (.seq (.region [(.mk (Option.some 3)
  (.load 3 Bool.true (.tmp 1)) Option.none), (.mk (Option.some 4) (.call 252 [(.tmp 3)]) Option.none), (.mk (Option.some 5) (.un .not (.tmp 4)) Option.none), (.mk (Option.some 2)
  (.mv (.tmp 5)) Option.none)]) .ret)) 6 [(.tmp 2)])
def a252 : AFn :=
  (.mk (.seq (.region [(.mk (Option.some 1) (.box (.tmp 0)) Option.none), (.mk (Option.some 2) (.mv (.const (.bool Bool.false))) Option.none)]) (.seq (.region [(.mk (Option.some 3)
  (.fieldAddr 0 (.tmp 1)) Option.none), (.mk (Option.some 4) (.load 1 Bool.false (.tmp 3)) Option.none), (.mk (Option.some 5) (.lenStr (.tmp 4)) Option.none), (.mk (Option.some 6)
  (.bin .leq (.tmp 5) (.const (.int .i64 16))) Option.none), (.mk (Option.some 7) (.mv (.tmp 6)) Option.none), (.mk (Option.some 8) (.fieldAddr 2 (.tmp 1)) (Option.some (7,
  Bool.true))), (.mk (Option.some 9) (.load 1 Bool.false (.tmp 8)) (Option.some (7, Bool.true))), (.mk (Option.some 10) (.mv (.tmp 9)) (Option.some (7, Bool.true))), (.mk
  (Option.some 11) (.fieldAddr 1 (.tmp 1)) (Option.some (10, Bool.false))), (.mk (Option.some 12) (.load 1 Bool.false (.tmp 11)) (Option.some (10, Bool.false))), (.mk (Option.some
  13) (.bin .eql (.tmp 12) (.const (.int .i64 0))) (Option.some (10, Bool.false))), (.mk (Option.some 14) (.pick (.tmp 10) (.const (.bool Bool.true)) (.tmp 13)) (Option.some (7,
  Bool.true))), (.mk (Option.some 15) (.pick (.tmp 7) (.tmp 14) (.const (.bool Bool.false))) Option.none), (.mk (Option.some 2) (.mv (.tmp 15)) Option.none)]) .ret)) 16 [(.tmp 2)])
def a253 : AFn :=
  (.mk (.seq (.region [(.mk (Option.some 7) (.mv (.tmp 0)) Option.none), (.mk (Option.some 8) (.mv (.tmp 1)) Option.none), (.mk (Option.some 9) (.call 297 [(.tmp 7), (.tmp 8)])
  Option.none), (.mk (Option.some 6) (.mv (.tmp 9)) Option.none), (.mk (Option.some 10) (.extract (.tmp 6) 0) Option.none), (.mk (Option.some 11) (.extract (.tmp 6) 1)
  Option.none), (.mk (Option.some 4) (.mv (.tmp 10)) Option.none), (.mk (Option.some 5) (.mv (.tmp 11)) Option.none)]) (.seq (.region [(.mk (Option.some 12) (.mv (.tmp 5))
  Option.none)]) (.cond (.tmp 12) (.region [(.mk (Option.some 13) (.mv (.tmp 0)) Option.none), (.mk (Option.some 14) (.mv (.tmp 0)) Option.none), (.mk (Option.some 15) (.nilCheck
  (.tmp 14)) Option.none), (.mk (Option.some 16) (.fieldAddr 0 (.tmp 15)) Option.none), (.mk (Option.some 17) (.load 1 Bool.false (.tmp 16)) Option.none), (.mk (Option.some 18)
  (.mv (.tmp 4)) Option.none), (.mk (Option.some 19) (.mv (.tmp 4)) Option.none), (.mk (Option.some 20) (.bin .add (.tmp 19) (.const (.int .i64 1))) Option.none), (.mk (Option.some
  21) (.call 343 [(.tmp 17), (.tmp 18), (.tmp 20)]) Option.none), (.mk (Option.some 22) (.nilCheck (.tmp 13)) Option.none), (.mk (Option.some 23) (.fieldAddr 0 (.tmp 22))
  Option.none), (.mk Option.none (.store 1 (.tmp 23) (.tmp 21)) Option.none)]) .skip))) 24 [])
def a257 : AFn :=
  (.mk (.seq (.region [(.mk (Option.some 6) (.box (.tmp 2)) Option.none), (.mk (Option.some 8) (.mv (.const (.bool Bool.false))) Option.none)]) (.block 0 (.loop (.block 1 (.seq (.seq
  (.region [(.mk (Option.some 16) (.mv (.tmp 0)) Option.none), (.mk (Option.some 17) (.call 286 [(.tmp 16)]) Option.none), (.mk (Option.some 18) (.mv (.tmp 3)) Option.none), (.mk
  (Option.some 19) (.invoke (.tmp 17) [(430, (448, Option.none))] [(.tmp 18)]) Option.none)]) (.cond (.tmp 19) (.seq (.region [(.mk (Option.some 20) (.load 3 Bool.true (.tmp 6))
  Option.none), (.mk (Option.some 21) (.call 344 [(.tmp 20)]) Option.none), (.mk (Option.some 22) (.mv (.tmp 0)) Option.none), (.mk (Option.some 23) (.call 254 [(.tmp 22)])
  Option.none), (.mk (Option.some 24) (.call 345 [(.tmp 21), (.tmp 23)]) Option.none)]) (.seq (.region [(.mk (Option.some 8) (.mv (.const (.bool Bool.true))) Option.none)]) .ret))
  .skip)) (.seq (.seq (.region [(.mk (Option.some 26) (.mv (.tmp 0)) Option.none), (.mk (Option.some 27) (.isIface [] [8, 10, 11, 14, 15, 16, 17, 19, 22, 24, 25, 26, 32, 54, 58,
  66, 77, 79, 85, 100, 103, 105, 122, 138, 150, 155, 182, 198, 229, 235, 236, 245, 251, 253, 254, 255, 271, 327, 343, 349, 350, 351, 352, 353, 354, 359, 360, 361, 366, 429, 430,
  431, 483, 511] Bool.true (.tmp 26)) Option.none), (.mk (Option.some 25) (.mv (.tmp 27)) Option.none), (.mk (Option.some 28) (.extract (.tmp 25) 0) Option.none), (.mk (Option.some
  29) (.extract (.tmp 25) 1) Option.none), (.mk (Option.some 9) (.mv (.tmp 28)) Option.none), (.mk (Option.some 10) (.mv (.tmp 29)) Option.none)]) (.seq (.region [(.mk (Option.some
  30) (.mv (.tmp 10)) Option.none), (.mk (Option.some 31) (.mv (.tmp 30)) Option.none), (.mk (Option.some 32) (.mv (.tmp 9)) (Option.some (31, Bool.true))), (.mk (Option.some 33)
  (.mv (.tmp 1)) (Option.some (31, Bool.true))), (.mk (Option.some 34) (.invoke (.tmp 32) [] [(.tmp 33)]) (Option.some (31, Bool.true))), (.mk (Option.some 35) (.pick (.tmp 31)
  (.tmp 34) (.const (.bool Bool.false))) Option.none)]) (.cond (.tmp 35) (.seq (.region [(.mk (Option.some 8) (.mv (.const (.bool Bool.true))) Option.none)]) .ret) .skip))) (.seq
  (.region [(.mk (Option.some 36) (.mv (.tmp 0)) Option.none)]) (.block 2 (.seq (.region [(.mk (Option.some 37) (.isIface [251, 253, 254, 255, 349, 350, 351, 352, 353, 354] [8, 10,
  11, 14, 15, 16, 17, 19, 22, 24, 25, 26, 32, 54, 58, 66, 77, 79, 85, 100, 103, 105, 122, 138, 150, 155, 182, 198, 229, 235, 236, 245, 271, 327, 343, 359, 360, 361, 366, 429, 430,
  431, 483, 511] Bool.true (.tmp 36)) Option.none), (.mk (Option.some 38) (.extract (.tmp 37) 1) Option.none), (.mk (Option.some 39) (.extract (.tmp 37) 0) Option.none)]) (.cond
  (.tmp 38) (.seq (.region [(.mk (Option.some 11) (.mv (.tmp 39)) Option.none)]) (.seq (.region [(.mk (Option.some 40) (.mv (.tmp 11)) Option.none), (.mk (Option.some 41) (.invoke
  (.tmp 40) [(251, (441, (Option.some (0, (1, Bool.true))))), (253, (441, Option.none)), (349, (441, (Option.some (0, (1, Bool.true))))), (352, (441, (Option.some (0, (1,
  Bool.true)))))] []) Option.none), (.mk (Option.some 0) (.mv (.tmp 41)) Option.none)]) (.seq (.region [(.mk (Option.some 42) (.mv (.tmp 0)) Option.none), (.mk (Option.some 43)
  (.eq (.iface Bool.true) Bool.false (.tmp 42) (.const .nilIface)) Option.none)]) (.cond (.tmp 43) (.seq (.region [(.mk (Option.some 8) (.mv (.const (.bool Bool.false)))
  Option.none)]) .ret) .skip)))) (.seq (.region [(.mk (Option.some 44) (.isIface [] [8, 10, 11, 14, 15, 16, 17, 19, 22, 24, 25, 26, 32, 54, 58, 66, 77, 79, 85, 100, 103, 105, 122,
  138, 150, 155, 182, 198, 229, 235, 236, 245, 251, 253, 254, 255, 271, 327, 343, 349, 350, 351, 352, 353, 354, 359, 360, 361, 366, 429, 430, 431, 483, 511] Bool.true (.tmp 36))
  Option.none), (.mk (Option.some 45) (.extract (.tmp 44) 1) Option.none), (.mk (Option.some 46) (.extract (.tmp 44) 0) Option.none)]) (.cond (.tmp 45) (.seq (.region [(.mk
  (Option.some 12) (.mv (.tmp 46)) Option.none)]) (.seq (.seq (.region [(.mk (Option.some 47) (.mv (.tmp 12)) Option.none), (.mk (Option.some 48) (.invoke (.tmp 47) [(251, (441,
  (Option.some (0, (1, Bool.true))))), (253, (441, Option.none)), (349, (441, (Option.some (0, (1, Bool.true))))), (352, (441, (Option.some (0, (1, Bool.true)))))] [])
  Option.none), (.mk (Option.some 49) (.len (.tmp 48)) Option.none), (.mk (Option.some 50) (.mv (.const (.int .i64 0))) Option.none)]) (.block 3 (.loop (.seq (.region [(.mk
  (Option.some 51) (.bin .lss (.tmp 50) (.tmp 49)) Option.none)]) (.seq (.cond (.tmp 51) .skip (.exit 3)) (.seq (.block 4 (.seq (.region [(.mk (Option.some 52) (.atSlice 1 (.tmp
  48) (.tmp 50)) Option.none), (.mk (Option.some 53) (.load 1 Bool.false (.tmp 52)) Option.none), (.mk (Option.some 14) (.mv (.tmp 53)) Option.none)]) (.seq (.seq (.region [(.mk
  (Option.some 54) (.mv (.tmp 14)) Option.none), (.mk (Option.some 55) (.eq (.iface Bool.true) Bool.false (.tmp 54) (.const .nilIface)) Option.none)]) (.cond (.tmp 55) (.exit 4)
  .skip)) (.seq (.region [(.mk (Option.some 56) (.mv (.tmp 14)) Option.none), (.mk (Option.some 57) (.mv (.tmp 1)) Option.none), (.mk (Option.some 58) (.load 3 Bool.true (.tmp 6))
  Option.none), (.mk (Option.some 59) (.mv (.tmp 3)) Option.none), (.mk (Option.some 60) (.call 257 [(.tmp 56), (.tmp 57), (.tmp 58), (.tmp 59)]) Option.none)]) (.cond (.tmp 60)
  (.seq (.region [(.mk (Option.some 8) (.mv (.const (.bool Bool.true))) Option.none)]) .ret) .skip))))) (.region [(.mk (Option.some 61) (.bin .add (.tmp 50) (.const (.int .i64 1)))
  Option.none), (.mk (Option.some 50) (.mv (.tmp 61)) Option.none)]))))))) (.seq (.region [(.mk (Option.some 8) (.mv (.const (.bool Bool.false))) Option.none)]) .ret))) (.seq
  (.region [(.mk (Option.some 15) (.mv (.tmp 36)) Option.none)]) (.seq (.region [(.mk (Option.some 8) (.mv (.const (.bool Bool.false))) Option.none)]) .ret)))))))))))))) 62 [(.tmp
  8)])
def a258 : AFn :=
  (.mk (.seq (.region [(.mk (Option.some 4) (.mv (.const (.int .i64 0))) Option.none), (.mk (Option.some 5) (.mv (.const .nilIface)) Option.none)]) (.seq (.seq (.region [(.mk
  (Option.some 7) (.mv (.tmp 0)) Option.none), (.mk (Option.some 8) (.nilCheck (.tmp 7)) Option.none), (.mk (Option.some 9) (.fieldAddr 2 (.tmp 8)) Option.none), (.mk (Option.some
  10) (.load 1 Bool.false (.tmp 9)) Option.none), (.mk (Option.some 11) (.bin .lss (.tmp 10) (.const (.int .i64 0))) Option.none)]) (.cond (.tmp 11) (.seq (.region [(.mk
  (Option.some 4) (.mv (.const (.int .i64 0))) Option.none), (.mk (Option.some 5) (.mv (.const .nilIface)) Option.none)]) .ret) .skip)) (.seq (.draws [((.mk (Option.some 12) (.mv
  (.tmp 0)) Option.none), (0, 8)), ((.mk (Option.some 13) (.nilCheck (.tmp 12)) Option.none), (0, 8)), ((.mk (Option.some 14) (.fieldAddr 0 (.tmp 13)) Option.none), (0, 8)), ((.mk
  (Option.some 15) (.load 1 Bool.false (.tmp 14)) Option.none), (0, 8)), ((.mk (Option.some 16) (.mv (.tmp 0)) Option.none), (0, 8)), ((.mk (Option.some 17) (.nilCheck (.tmp 16))
  Option.none), (0, 8)), ((.mk (Option.some 18) (.fieldAddr 2 (.tmp 17)) Option.none), (0, 8)), ((.mk (Option.some 19) (.load 1 Bool.false (.tmp 18)) Option.none), (0, 8)), ((.mk
  (Option.some 20) (.call 268 [(.tmp 15), (.tmp 19)]) Option.none), (0, 10)), ((.mk (Option.some 6) (.mv (.tmp 20)) Option.none), (9, 10))]) (.seq (.seq (.region [(.mk (Option.some
  21) (.mv (.tmp 6)) Option.none), (.mk (Option.some 22) (.bin .eql (.tmp 21) (.const (.int .i64 0))) Option.none), (.mk (Option.some 23) (.mv (.tmp 22)) Option.none), (.mk
  (Option.some 24) (.mv (.tmp 1)) (Option.some (23, Bool.false))), (.mk (Option.some 25) (.mv (.tmp 0)) (Option.some (23, Bool.false))), (.mk (Option.some 26) (.nilCheck (.tmp 25))
  (Option.some (23, Bool.false))), (.mk (Option.some 27) (.fieldAddr 1 (.tmp 26)) (Option.some (23, Bool.false))), (.mk (Option.some 28) (.load 1 Bool.false (.tmp 27)) (Option.some
  (23, Bool.false))), (.mk (Option.some 29) (.mv (.tmp 6)) (Option.some (23, Bool.false))), (.mk (Option.some 30) (.bin .sub (.tmp 28) (.tmp 29)) (Option.some (23, Bool.false))),
  (.mk (Option.some 31) (.bin .leq (.tmp 24) (.tmp 30)) (Option.some (23, Bool.false))), (.mk (Option.some 32) (.pick (.tmp 23) (.const (.bool Bool.true)) (.tmp 31)) Option.none)])
  (.cond (.tmp 32) (.seq (.region [(.mk (Option.some 33) (.mv (.tmp 0)) Option.none), (.mk (Option.some 34) (.nilCheck (.tmp 33)) Option.none), (.mk (Option.some 35) (.fieldAddr 2
  (.tmp 34)) Option.none), (.mk (Option.some 36) (.load 1 Bool.false (.tmp 35)) Option.none), (.mk (Option.some 4) (.mv (.tmp 36)) Option.none), (.mk (Option.some 5) (.mv (.const
  .nilIface)) Option.none)]) .ret) .skip)) (.seq (.draws [((.mk (Option.some 37) (.mv (.tmp 0)) Option.none), (0, 21)), ((.mk (Option.some 38) (.nilCheck (.tmp 37)) Option.none),
  (0, 21)), ((.mk (Option.some 39) (.fieldAddr 2 (.tmp 38)) Option.none), (0, 21)), ((.mk (Option.some 40) (.load 1 Bool.false (.tmp 39)) Option.none), (0, 21)), ((.mk (Option.some
  41) (.bin .add (.tmp 40) (.const (.int .i64 1))) Option.none), (0, 21)), ((.mk (Option.some 42) (.mv (.tmp 0)) Option.none), (0, 18)), ((.mk (Option.some 43) (.nilCheck (.tmp
  42)) Option.none), (0, 18)), ((.mk (Option.some 44) (.fieldAddr 2 (.tmp 43)) Option.none), (0, 18)), ((.mk (Option.some 45) (.load 1 Bool.false (.tmp 44)) Option.none), (0, 18)),
  ((.mk (Option.some 46) (.mv (.tmp 0)) Option.none), (0, 17)), ((.mk (Option.some 47) (.nilCheck (.tmp 46)) Option.none), (0, 17)), ((.mk (Option.some 48) (.fieldAddr 0 (.tmp 47))
  Option.none), (0, 17)), ((.mk (Option.some 49) (.load 1 Bool.false (.tmp 48)) Option.none), (0, 17)), ((.mk (Option.some 50) (.mv (.tmp 0)) Option.none), (0, 17)), ((.mk
  (Option.some 51) (.nilCheck (.tmp 50)) Option.none), (0, 17)), ((.mk (Option.some 52) (.fieldAddr 2 (.tmp 51)) Option.none), (0, 17)), ((.mk (Option.some 53) (.load 1 Bool.false
  (.tmp 52)) Option.none), (0, 17)), ((.mk (Option.some 54) (.call 161 [(.tmp 49), (.tmp 53)]) Option.none), (0, 18)), ((.mk (Option.some 55) (.call 158 [(.tmp 45), (.tmp 54)])
  Option.none), (18, 21)), ((.mk (Option.some 4) (.mv (.tmp 41)) Option.none), (19, 21)), ((.mk (Option.some 5) (.mv (.tmp 55)) Option.none), (19, 21))]) .ret))))) 56 [(.tmp 4),
  (.tmp 5)])
def a259 : AFn :=
  (.mk (.seq (.region [(.mk (Option.some 2) (.mv (.const (.slice Option.none 0 0))) Option.none)]) (.seq (.region [(.mk (Option.some 3) (.mv (.tmp 0)) Option.none), (.mk (Option.some
  4) (.call 346 [(.const (.slice Option.none 0 0)), (.tmp 3)]) Option.none), (.mk (Option.some 2) (.mv (.tmp 4)) Option.none)]) .ret)) 5 [(.tmp 2)])
def a260 : AFn :=
  (.mk (.seq (.region [(.mk (Option.some 3) (.mv (.tmp 0)) Option.none), (.mk (Option.some 4) (.len (.tmp 3)) Option.none), (.mk (Option.some 2) (.mv (.tmp 4)) Option.none)])
  (.region [(.mk (Option.some 5) (.mv (.tmp 0)) Option.none), (.mk (Option.some 6) (.mv (.tmp 2)) Option.none), (.mk (Option.some 7) (.mv (.tmp 2)) Option.none), (.mk (Option.some
  8) (.conv .u64 (.tmp 7)) Option.none), (.mk (Option.some 9) (.call 223 [(.tmp 8)]) Option.none), (.mk (Option.some 10) (.call 347 [(.tmp 5), (.const (.int .i64 0)), (.tmp 6),
  (.tmp 9)]) Option.none)])) 11 [])
def a262 : AFn :=
  (.mk (.seq (.region [(.mk (Option.some 6) (.mv (.const .nilIface)) Option.none)]) (.seq (.seq (.region [(.mk (Option.some 10) (.mv (.tmp 0)) Option.none), (.mk (Option.some 11)
  (.eq .ptr Bool.false (.tmp 10) (.const (.pointer Option.none))) Option.none)]) (.cond (.tmp 11) (.seq (.region [(.mk (Option.some 12) (.call 90 [(.const (.int .i64 1))])
  Option.none), (.mk (Option.some 6) (.mv (.tmp 12)) Option.none)]) .ret) .skip)) (.seq (.seq (.region [(.mk (Option.some 13) (.mv (.tmp 1)) Option.none), (.mk (Option.some 14)
  (.call 348 [(.tmp 13)]) Option.none), (.mk (Option.some 7) (.mv (.tmp 14)) Option.none)]) (.seq (.region [(.mk (Option.some 15) (.mv (.tmp 7)) Option.none), (.mk (Option.some 16)
  (.eq (.iface Bool.true) Bool.true (.tmp 15) (.const .nilIface)) Option.none)]) (.cond (.tmp 16) (.seq (.region [(.mk (Option.some 17) (.mv (.tmp 7)) Option.none), (.mk
  (Option.some 6) (.mv (.tmp 17)) Option.none)]) .ret) .skip))) (.seq (.seq (.region [(.mk (Option.some 18) (.mv (.tmp 0)) Option.none), (.mk (Option.some 19) (.nilCheck (.tmp 18))
  Option.none), (.mk (Option.some 20) (.fieldAddr 3 (.tmp 19)) Option.none), (.mk (Option.some 21) (.load 1 Bool.false (.tmp 20)) Option.none)]) (.cond (.tmp 21) (.seq (.region
  [(.mk (Option.some 22) (.call 90 [(.const (.int .i64 8))]) Option.none), (.mk (Option.some 6) (.mv (.tmp 22)) Option.none)]) .ret) .skip)) (.seq (.seq (.region [(.mk (Option.some
  24) (.mv (.tmp 0)) Option.none), (.mk (Option.some 25) (.nilCheck (.tmp 24)) Option.none), (.mk (Option.some 26) (.fieldAddr 1 (.tmp 25)) Option.none), (.mk (Option.some 27)
  (.load 1 Bool.false (.tmp 26)) Option.none), (.mk (Option.some 28) (.mv (.tmp 1)) Option.none), (.mk (Option.some 29) (.lookup (.int .i64) (.agg [(.slice Option.none 0 0 0 0),
  (.int .i64 0)]) Bool.true (.tmp 27) (.tmp 28)) Option.none), (.mk (Option.some 23) (.mv (.tmp 29)) Option.none), (.mk (Option.some 30) (.extract (.tmp 23) 0) Option.none), (.mk
  (Option.some 31) (.extract (.tmp 23) 1) Option.none), (.mk (Option.some 8) (.alloc [(.slice Option.none 0 0 0 0), (.int .i64 0)]) Option.none), (.mk Option.none (.store 2 (.tmp
  8) (.tmp 30)) Option.none), (.mk (Option.some 9) (.mv (.tmp 31)) Option.none)]) (.seq (.region [(.mk (Option.some 32) (.mv (.tmp 9)) Option.none), (.mk (Option.some 33) (.un .not
  (.tmp 32)) Option.none), (.mk (Option.some 34) (.mv (.tmp 33)) Option.none), (.mk (Option.some 35) (.mv (.tmp 2)) (Option.some (34, Bool.true))), (.mk (Option.some 36) (.un .not
  (.tmp 35)) (Option.some (34, Bool.true))), (.mk (Option.some 37) (.pick (.tmp 34) (.tmp 36) (.const (.bool Bool.false))) Option.none)]) (.cond (.tmp 37) (.seq (.region [(.mk
  (Option.some 38) (.mv (.tmp 1)) Option.none), (.mk (Option.some 39) (.call 90 [(.const (.int .i64 3))]) Option.none), (.mk (Option.some 40) (.call 82 [(.tmp 38), (.tmp 39)])
  Option.none), (.mk (Option.some 6) (.mv (.tmp 40)) Option.none)]) .ret) .skip))) (.seq (.region [(.mk (Option.some 6) (.mv (.const .nilIface)) Option.none)]) .ret)))))) 41 [(.tmp
  6)])
def a263 : AFn :=
  (.mk (.seq (.region [(.mk (Option.some 6) (.mv (.const .nilIface)) Option.none)]) (.seq (.region [(.mk (Option.some 12) (.mv (.tmp 0)) Option.none), (.mk (Option.some 13) (.call
  349 [(.tmp 12)]) Option.none), (.mk (Option.some 7) (.mv (.tmp 13)) Option.none)]) (.seq (.seq (.region [(.mk (Option.some 14) (.mv (.tmp 2)) Option.none), (.mk (Option.some 15)
  (.len (.tmp 14)) Option.none), (.mk (Option.some 16) (.mv (.const (.int .i64 0))) Option.none)]) (.block 0 (.loop (.seq (.region [(.mk (Option.some 17) (.bin .lss (.tmp 16) (.tmp
  15)) Option.none)]) (.seq (.cond (.tmp 17) .skip (.exit 0)) (.seq (.block 1 (.seq (.region [(.mk (Option.some 18) (.atSlice 1 (.tmp 14) (.tmp 16)) Option.none), (.mk (Option.some
  19) (.load 1 Bool.false (.tmp 18)) Option.none), (.mk (Option.some 9) (.mv (.tmp 19)) Option.none)]) (.seq (.seq (.region [(.mk (Option.some 20) (.mv (.tmp 9)) Option.none), (.mk
  (Option.some 21) (.len (.tmp 20)) Option.none), (.mk (Option.some 22) (.mv (.tmp 7)) Option.none), (.mk (Option.some 23) (.bin .gtr (.tmp 21) (.tmp 22)) Option.none)]) (.cond
  (.tmp 23) (.seq (.draws [((.mk (Option.some 24) (.mv (.tmp 0)) Option.none), (0, 7)), ((.mk (Option.some 25) (.nilCheck (.tmp 24)) Option.none), (0, 7)), ((.mk (Option.some 26)
  (.fieldAddr 0 (.tmp 25)) Option.none), (0, 7)), ((.mk (Option.some 27) (.load 1 Bool.false (.tmp 26)) Option.none), (0, 7)), ((.mk (Option.some 28) (.mv (.tmp 9)) Option.none),
  (0, 7)), ((.mk (Option.some 29) (.len (.tmp 28)) Option.none), (0, 7)), ((.mk (Option.some 30) (.call 90 [(.const (.int .i64 5))]) Option.none), (0, 7)), ((.mk (Option.some 31)
  (.call 150 [(.tmp 27), (.tmp 29), (.tmp 30)]) Option.none), (7, 9)), ((.mk (Option.some 6) (.mv (.tmp 31)) Option.none), (8, 9))]) .ret) .skip)) (.region [(.mk (Option.some 32)
  (.mv (.tmp 7)) Option.none), (.mk (Option.some 33) (.mv (.tmp 9)) Option.none), (.mk (Option.some 34) (.len (.tmp 33)) Option.none), (.mk (Option.some 35) (.bin .sub (.tmp 32)
  (.tmp 34)) Option.none), (.mk (Option.some 7) (.mv (.tmp 35)) Option.none)])))) (.region [(.mk (Option.some 36) (.bin .add (.tmp 16) (.const (.int .i64 1))) Option.none), (.mk
  (Option.some 16) (.mv (.tmp 36)) Option.none)]))))))) (.seq (.seq (.region [(.mk (Option.some 38) (.mv (.tmp 0)) Option.none), (.mk (Option.some 39) (.nilCheck (.tmp 38))
  Option.none), (.mk (Option.some 40) (.fieldAddr 1 (.tmp 39)) Option.none), (.mk (Option.some 41) (.load 1 Bool.false (.tmp 40)) Option.none), (.mk (Option.some 42) (.mv (.tmp 1))
  Option.none), (.mk (Option.some 43) (.lookup (.int .i64) (.agg [(.slice Option.none 0 0 0 0), (.int .i64 0)]) Bool.true (.tmp 41) (.tmp 42)) Option.none), (.mk (Option.some 37)
  (.mv (.tmp 43)) Option.none), (.mk (Option.some 44) (.extract (.tmp 37) 0) Option.none), (.mk (Option.some 45) (.extract (.tmp 37) 1) Option.none), (.mk (Option.some 10) (.alloc
  [(.slice Option.none 0 0 0 0), (.int .i64 0)]) Option.none), (.mk Option.none (.store 2 (.tmp 10) (.tmp 44)) Option.none), (.mk (Option.some 11) (.mv (.tmp 45)) Option.none)])
  (.seq (.region [(.mk (Option.some 46) (.mv (.tmp 11)) Option.none), (.mk (Option.some 47) (.un .not (.tmp 46)) Option.none), (.mk (Option.some 48) (.mv (.tmp 47)) Option.none),
  (.mk (Option.some 49) (.mv (.tmp 0)) (Option.some (48, Bool.true))), (.mk (Option.some 50) (.nilCheck (.tmp 49)) (Option.some (48, Bool.true))), (.mk (Option.some 51) (.fieldAddr
  1 (.tmp 50)) (Option.some (48, Bool.true))), (.mk (Option.some 52) (.load 1 Bool.false (.tmp 51)) (Option.some (48, Bool.true))), (.mk (Option.some 53) (.lenMap (.tmp 52))
  (Option.some (48, Bool.true))), (.mk (Option.some 54) (.bin .geq (.tmp 53) (.const (.int .i64 64))) (Option.some (48, Bool.true))), (.mk (Option.some 55) (.pick (.tmp 48) (.tmp
  54) (.const (.bool Bool.false))) Option.none)]) (.cond (.tmp 55) (.seq (.region [(.mk (Option.some 56) (.mv (.tmp 1)) Option.none), (.mk (Option.some 57) (.call 90 [(.const (.int
  .i64 5))]) Option.none), (.mk (Option.some 58) (.call 150 [(.const (.int .i64 64)), (.tmp 56), (.tmp 57)]) Option.none), (.mk (Option.some 6) (.mv (.tmp 58)) Option.none)]) .ret)
  .skip))) (.seq (.region [(.mk (Option.some 6) (.mv (.const .nilIface)) Option.none)]) .ret))))) 59 [(.tmp 6)])
def a264 : AFn :=
  (.mk (.seq (.region [(.mk (Option.some 5) (.box (.tmp 2)) Option.none), (.mk (Option.some 6) (.mv (.const (.int .i64 0))) Option.none)]) (.seq (.region [(.mk (Option.some 8) (.mv
  (.tmp 0)) Option.none), (.mk (Option.some 9) (.call 266 [(.tmp 8)]) Option.none), (.mk (Option.some 7) (.mv (.tmp 9)) Option.none)]) (.seq (.seq (.region [(.mk (Option.some 10)
  (.mv (.tmp 7)) Option.none), (.mk (Option.some 11) (.eq (.iface Bool.true) Bool.false (.tmp 10) (.const .nilIface)) Option.none)]) (.cond (.tmp 11) (.draws [((.mk (Option.some
  12) (.mv (.tmp 0)) Option.none), (0, 6)), ((.mk (Option.some 13) (.nilCheck (.tmp 12)) Option.none), (0, 6)), ((.mk (Option.some 14) (.fieldAddr 1 (.tmp 13)) Option.none), (0,
  6)), ((.mk (Option.some 15) (.load 1 Bool.false (.tmp 14)) Option.none), (0, 6)), ((.mk (Option.some 16) (.mv (.tmp 1)) Option.none), (0, 6)), ((.mk (Option.some 17) (.load 2
  Bool.true (.tmp 5)) Option.none), (0, 6)), ((.mk Option.none (.mapPut (.int .i64) (.tmp 15) (.tmp 16) (.tmp 17)) Option.none), (0, 7))]) .skip)) (.seq (.region [(.mk (Option.some
  18) (.mv (.tmp 7)) Option.none), (.mk (Option.some 19) (.call 67 [(.tmp 18)]) Option.none), (.mk (Option.some 6) (.mv (.tmp 19)) Option.none)]) .ret)))) 20 [(.tmp 6)])
def a265 : AFn :=
  (.mk (.seq (.region [(.mk (Option.some 2) (.mv (.const (.int .u32 0))) Option.none)]) (.seq (.region [(.mk (Option.some 3) (.mv (.const (.int .u32 4294967295))) Option.none)])
  (.seq (.seq (.region [(.mk (Option.some 8) (.mv (.tmp 0)) Option.none), (.mk (Option.some 9) (.len (.tmp 8)) Option.none), (.mk (Option.some 10) (.mv (.const (.int .i64 0)))
  Option.none)]) (.block 0 (.loop (.seq (.region [(.mk (Option.some 11) (.bin .lss (.tmp 10) (.tmp 9)) Option.none)]) (.seq (.cond (.tmp 11) .skip (.exit 0)) (.seq (.block 1 (.seq
  (.region [(.mk (Option.some 12) (.atSlice 1 (.tmp 8) (.tmp 10)) Option.none), (.mk (Option.some 13) (.load 1 Bool.false (.tmp 12)) Option.none), (.mk (Option.some 5) (.mv (.tmp
  13)) Option.none)]) (.seq (.region [(.mk (Option.some 14) (.mv (.tmp 5)) Option.none), (.mk (Option.some 15) (.len (.tmp 14)) Option.none), (.mk (Option.some 16) (.mv (.const
  (.int .i64 0))) Option.none)]) (.block 2 (.loop (.seq (.region [(.mk (Option.some 17) (.bin .lss (.tmp 16) (.tmp 15)) Option.none)]) (.seq (.cond (.tmp 17) .skip (.exit 2)) (.seq
  (.block 3 (.seq (.region [(.mk (Option.some 18) (.atSlice 1 (.tmp 14) (.tmp 16)) Option.none), (.mk (Option.some 19) (.load 1 Bool.false (.tmp 18)) Option.none), (.mk
  (Option.some 7) (.mv (.tmp 19)) Option.none)]) (.seq (.region [(.mk (Option.some 20) (.mv (.tmp 3)) Option.none), (.mk (Option.some 21) (.mv (.tmp 7)) Option.none), (.mk
  (Option.some 22) (.conv .u32 (.tmp 21)) Option.none), (.mk (Option.some 23) (.bin .xor (.tmp 20) (.tmp 22)) Option.none), (.mk (Option.some 3) (.mv (.tmp 23)) Option.none)])
  (.seq (.region [(.mk (Option.some 24) (.mv (.const (.int .i64 0))) Option.none)]) (.block 4 (.loop (.seq (.region [(.mk (Option.some 25) (.bin .lss (.tmp 24) (.const (.int .i64
  8))) Option.none)]) (.seq (.cond (.tmp 25) .skip (.exit 4)) (.seq (.block 5 (.seq (.region [(.mk (Option.some 26) (.mv (.tmp 3)) Option.none), (.mk (Option.some 27) (.bin .and
  (.tmp 26) (.const (.int .u32 1))) Option.none), (.mk (Option.some 28) (.bin .eql (.tmp 27) (.const (.int .u32 1))) Option.none)]) (.cond (.tmp 28) (.region [(.mk (Option.some 29)
  (.mv (.tmp 3)) Option.none), (.mk (Option.some 30) (.bin .shr (.tmp 29) (.const (.int .u64 1))) Option.none), (.mk (Option.some 31) (.bin .xor (.tmp 30) (.const (.int .u32
  2197175160))) Option.none), (.mk (Option.some 3) (.mv (.tmp 31)) Option.none)]) (.region [(.mk (Option.some 32) (.mv (.tmp 3)) Option.none), (.mk (Option.some 33) (.bin .shr
  (.tmp 32) (.const (.int .u64 1))) Option.none), (.mk (Option.some 3) (.mv (.tmp 33)) Option.none)])))) (.region [(.mk (Option.some 34) (.bin .add (.tmp 24) (.const (.int .i64
  1))) Option.none), (.mk (Option.some 24) (.mv (.tmp 34)) Option.none)])))))))))) (.region [(.mk (Option.some 35) (.bin .add (.tmp 16) (.const (.int .i64 1))) Option.none), (.mk
  (Option.some 16) (.mv (.tmp 35)) Option.none)]))))))))) (.region [(.mk (Option.some 36) (.bin .add (.tmp 10) (.const (.int .i64 1))) Option.none), (.mk (Option.some 10) (.mv
  (.tmp 36)) Option.none)]))))))) (.seq (.region [(.mk (Option.some 37) (.mv (.tmp 3)) Option.none), (.mk (Option.some 38) (.un .xor (.tmp 37)) Option.none), (.mk (Option.some 2)
  (.mv (.tmp 38)) Option.none)]) .ret)))) 39 [(.tmp 2)])
def a266 : AFn :=
  (.mk (.seq (.region [(.mk (Option.some 2) (.mv (.const .nilIface)) Option.none)]) (.seq (.seq (.region [(.mk (Option.some 3) (.mv (.tmp 0)) Option.none), (.mk (Option.some 4)
  (.nilCheck (.tmp 3)) Option.none), (.mk (Option.some 5) (.fieldAddr 2 (.tmp 4)) Option.none), (.mk (Option.some 6) (.load 1 Bool.false (.tmp 5)) Option.none), (.mk (Option.some
  7) (.bin .eql (.tmp 6) (.const (.int .i64 0))) Option.none)]) (.cond (.tmp 7) (.seq (.region [(.mk (Option.some 8) (.mv (.tmp 0)) Option.none), (.mk (Option.some 9) (.nilCheck
  (.tmp 8)) Option.none), (.mk (Option.some 10) (.fieldAddr 3 (.tmp 9)) Option.none), (.mk Option.none (.store 1 (.tmp 10) (.const (.bool Bool.true))) Option.none)]) (.seq (.region
  [(.mk (Option.some 11) (.call 90 [(.const (.int .i64 8))]) Option.none), (.mk (Option.some 2) (.mv (.tmp 11)) Option.none)]) .ret)) .skip)) (.seq (.seq (.region [(.mk
  (Option.some 12) (.mv (.tmp 0)) Option.none), (.mk (Option.some 13) (.nilCheck (.tmp 12)) Option.none), (.mk (Option.some 14) (.fieldAddr 2 (.tmp 13)) Option.none), (.mk
  (Option.some 15) (.load 1 Bool.false (.tmp 14)) Option.none), (.mk (Option.some 16) (.bin .gtr (.tmp 15) (.const (.int .i64 0))) Option.none)]) (.cond (.tmp 16) (.region [(.mk
  (Option.some 17) (.mv (.tmp 0)) Option.none), (.mk (Option.some 18) (.nilCheck (.tmp 17)) Option.none), (.mk (Option.some 19) (.fieldAddr 2 (.tmp 18)) Option.none), (.mk
  (Option.some 20) (.load 1 Bool.false (.tmp 19)) Option.none), (.mk (Option.some 21) (.bin .sub (.tmp 20) (.const (.int .i64 1))) Option.none), (.mk (Option.some 22) (.nilCheck
  (.tmp 17)) Option.none), (.mk (Option.some 23) (.fieldAddr 2 (.tmp 22)) Option.none), (.mk Option.none (.store 1 (.tmp 23) (.tmp 21)) Option.none)]) .skip)) (.seq (.region [(.mk
  (Option.some 2) (.mv (.const .nilIface)) Option.none)]) .ret)))) 24 [(.tmp 2)])
def a278 : AFn :=
  (.mk (.seq (.region [(.mk (Option.some 8) (.mv (.const (.bool Bool.true))) Option.none)]) (.seq (.region [(.mk (Option.some 9) (.mv (.const (.bool Bool.true))) Option.none)])
  (.block 0 (.loop (.block 1 (.seq (.region [(.mk (Option.some 19) (.mv (.tmp 2)) Option.none), (.mk (Option.some 20) (.mv (.tmp 1)) Option.none), (.mk (Option.some 21) (.bin .sub
  (.tmp 19) (.tmp 20)) Option.none), (.mk (Option.some 10) (.mv (.tmp 21)) Option.none)]) (.seq (.seq (.region [(.mk (Option.some 22) (.mv (.tmp 10)) Option.none), (.mk
  (Option.some 23) (.bin .leq (.tmp 22) (.const (.int .i64 12))) Option.none)]) (.cond (.tmp 23) (.seq (.region [(.mk (Option.some 24) (.mv (.tmp 0)) Option.none), (.mk
  (Option.some 25) (.mv (.tmp 1)) Option.none), (.mk (Option.some 26) (.mv (.tmp 2)) Option.none), (.mk (Option.some 27) (.call 355 [(.tmp 24), (.tmp 25), (.tmp 26)])
  Option.none)]) .ret) .skip)) (.seq (.seq (.region [(.mk (Option.some 28) (.mv (.tmp 3)) Option.none), (.mk (Option.some 29) (.bin .eql (.tmp 28) (.const (.int .i64 0)))
  Option.none)]) (.cond (.tmp 29) (.seq (.region [(.mk (Option.some 30) (.mv (.tmp 0)) Option.none), (.mk (Option.some 31) (.mv (.tmp 1)) Option.none), (.mk (Option.some 32) (.mv
  (.tmp 2)) Option.none), (.mk (Option.some 33) (.call 356 [(.tmp 30), (.tmp 31), (.tmp 32)]) Option.none)]) .ret) .skip)) (.seq (.seq (.region [(.mk (Option.some 34) (.mv (.tmp
  8)) Option.none), (.mk (Option.some 35) (.un .not (.tmp 34)) Option.none)]) (.cond (.tmp 35) (.seq (.region [(.mk (Option.some 36) (.mv (.tmp 0)) Option.none), (.mk (Option.some
  37) (.mv (.tmp 1)) Option.none), (.mk (Option.some 38) (.mv (.tmp 2)) Option.none), (.mk (Option.some 39) (.call 357 [(.tmp 36), (.tmp 37), (.tmp 38)]) Option.none)]) (.region
  [(.mk (Option.some 40) (.mv (.tmp 3)) Option.none), (.mk (Option.some 41) (.bin .sub (.tmp 40) (.const (.int .i64 1))) Option.none), (.mk (Option.some 3) (.mv (.tmp 41))
  Option.none)])) .skip)) (.seq (.region [(.mk (Option.some 43) (.mv (.tmp 0)) Option.none), (.mk (Option.some 44) (.mv (.tmp 1)) Option.none), (.mk (Option.some 45) (.mv (.tmp 2))
  Option.none), (.mk (Option.some 46) (.call 358 [(.tmp 43), (.tmp 44), (.tmp 45)]) Option.none), (.mk (Option.some 42) (.mv (.tmp 46)) Option.none), (.mk (Option.some 47)
  (.extract (.tmp 42) 0) Option.none), (.mk (Option.some 48) (.extract (.tmp 42) 1) Option.none), (.mk (Option.some 11) (.mv (.tmp 47)) Option.none), (.mk (Option.some 12) (.mv
  (.tmp 48)) Option.none)]) (.seq (.seq (.region [(.mk (Option.some 49) (.mv (.tmp 12)) Option.none), (.mk (Option.some 50) (.bin .eql (.tmp 49) (.const (.int .i64 2)))
  Option.none)]) (.cond (.tmp 50) (.seq (.region [(.mk (Option.some 51) (.mv (.tmp 0)) Option.none), (.mk (Option.some 52) (.mv (.tmp 1)) Option.none), (.mk (Option.some 53) (.mv
  (.tmp 2)) Option.none), (.mk (Option.some 54) (.call 359 [(.tmp 51), (.tmp 52), (.tmp 53)]) Option.none)]) (.seq (.region [(.mk (Option.some 55) (.mv (.tmp 2)) Option.none), (.mk
  (Option.some 56) (.bin .sub (.tmp 55) (.const (.int .i64 1))) Option.none), (.mk (Option.some 57) (.mv (.tmp 11)) Option.none), (.mk (Option.some 58) (.mv (.tmp 1)) Option.none),
  (.mk (Option.some 59) (.bin .sub (.tmp 57) (.tmp 58)) Option.none), (.mk (Option.some 60) (.bin .sub (.tmp 56) (.tmp 59)) Option.none), (.mk (Option.some 11) (.mv (.tmp 60))
  Option.none)]) (.region [(.mk (Option.some 12) (.mv (.const (.int .i64 1))) Option.none)]))) .skip)) (.seq (.seq (.region [(.mk (Option.some 61) (.mv (.tmp 8)) Option.none), (.mk
  (Option.some 62) (.mv (.tmp 61)) Option.none), (.mk (Option.some 63) (.mv (.tmp 9)) (Option.some (62, Bool.true))), (.mk (Option.some 64) (.pick (.tmp 62) (.tmp 63) (.const
  (.bool Bool.false))) Option.none), (.mk (Option.some 65) (.mv (.tmp 64)) Option.none), (.mk (Option.some 66) (.mv (.tmp 12)) (Option.some (65, Bool.true))), (.mk (Option.some 67)
  (.bin .eql (.tmp 66) (.const (.int .i64 1))) (Option.some (65, Bool.true))), (.mk (Option.some 68) (.pick (.tmp 65) (.tmp 67) (.const (.bool Bool.false))) Option.none)]) (.cond
  (.tmp 68) (.seq (.region [(.mk (Option.some 69) (.mv (.tmp 0)) Option.none), (.mk (Option.some 70) (.mv (.tmp 1)) Option.none), (.mk (Option.some 71) (.mv (.tmp 2)) Option.none),
  (.mk (Option.some 72) (.call 360 [(.tmp 69), (.tmp 70), (.tmp 71)]) Option.none)]) (.cond (.tmp 72) .ret .skip)) .skip)) (.seq (.seq (.draws [((.mk (Option.some 73) (.mv (.tmp
  1)) Option.none), (0, 12)), ((.mk (Option.some 74) (.bin .gtr (.tmp 73) (.const (.int .i64 0))) Option.none), (0, 12)), ((.mk (Option.some 75) (.mv (.tmp 74)) Option.none), (0,
  12)), ((.mk (Option.some 76) (.mv (.tmp 0)) (Option.some (75, Bool.true))), (0, 12)), ((.mk (Option.some 77) (.mv (.tmp 1)) (Option.some (75, Bool.true))), (0, 12)), ((.mk
  (Option.some 78) (.bin .sub (.tmp 77) (.const (.int .i64 1))) (Option.some (75, Bool.true))), (0, 12)), ((.mk (Option.some 79) (.atSlice 1 (.tmp 76) (.tmp 78)) (Option.some (75,
  Bool.true))), (0, 12)), ((.mk (Option.some 80) (.load 1 Bool.false (.tmp 79)) (Option.some (75, Bool.true))), (0, 12)), ((.mk (Option.some 81) (.mv (.tmp 0)) (Option.some (75,
  Bool.true))), (0, 12)), ((.mk (Option.some 82) (.mv (.tmp 11)) (Option.some (75, Bool.true))), (0, 12)), ((.mk (Option.some 83) (.atSlice 1 (.tmp 81) (.tmp 82)) (Option.some (75,
  Bool.true))), (0, 12)), ((.mk (Option.some 84) (.load 1 Bool.false (.tmp 83)) (Option.some (75, Bool.true))), (0, 12)), ((.mk (Option.some 85) (.call 361 [(.tmp 80), (.tmp 84)])
  (Option.some (75, Bool.true))), (0, 15)), ((.mk (Option.some 86) (.un .not (.tmp 85)) (Option.some (75, Bool.true))), (13, 15)), ((.mk (Option.some 87) (.pick (.tmp 75) (.tmp 86)
  (.const (.bool Bool.false))) Option.none), (13, 15))]) (.cond (.tmp 87) (.seq (.region [(.mk (Option.some 88) (.mv (.tmp 0)) Option.none), (.mk (Option.some 89) (.mv (.tmp 1))
  Option.none), (.mk (Option.some 90) (.mv (.tmp 2)) Option.none), (.mk (Option.some 91) (.mv (.tmp 11)) Option.none), (.mk (Option.some 92) (.call 362 [(.tmp 88), (.tmp 89), (.tmp
  90), (.tmp 91)]) Option.none), (.mk (Option.some 13) (.mv (.tmp 92)) Option.none)]) (.seq (.region [(.mk (Option.some 93) (.mv (.tmp 13)) Option.none), (.mk (Option.some 1) (.mv
  (.tmp 93)) Option.none)]) (.exit 1))) .skip)) (.seq (.region [(.mk (Option.some 95) (.mv (.tmp 0)) Option.none), (.mk (Option.some 96) (.mv (.tmp 1)) Option.none), (.mk
  (Option.some 97) (.mv (.tmp 2)) Option.none), (.mk (Option.some 98) (.mv (.tmp 11)) Option.none), (.mk (Option.some 99) (.call 363 [(.tmp 95), (.tmp 96), (.tmp 97), (.tmp 98)])
  Option.none), (.mk (Option.some 94) (.mv (.tmp 99)) Option.none), (.mk (Option.some 100) (.extract (.tmp 94) 0) Option.none), (.mk (Option.some 101) (.extract (.tmp 94) 1)
  Option.none), (.mk (Option.some 14) (.mv (.tmp 100)) Option.none), (.mk (Option.some 15) (.mv (.tmp 101)) Option.none)]) (.seq (.region [(.mk (Option.some 102) (.mv (.tmp 15))
  Option.none), (.mk (Option.some 9) (.mv (.tmp 102)) Option.none)]) (.seq (.region [(.mk (Option.some 103) (.mv (.tmp 14)) Option.none), (.mk (Option.some 104) (.mv (.tmp 1))
  Option.none), (.mk (Option.some 105) (.bin .sub (.tmp 103) (.tmp 104)) Option.none), (.mk (Option.some 106) (.mv (.tmp 2)) Option.none), (.mk (Option.some 107) (.mv (.tmp 14))
  Option.none), (.mk (Option.some 108) (.bin .sub (.tmp 106) (.tmp 107)) Option.none), (.mk (Option.some 16) (.mv (.tmp 105)) Option.none), (.mk (Option.some 17) (.mv (.tmp 108))
  Option.none)]) (.seq (.region [(.mk (Option.some 109) (.mv (.tmp 10)) Option.none), (.mk (Option.some 110) (.bin .quo (.tmp 109) (.const (.int .i64 8))) Option.none), (.mk
  (Option.some 18) (.mv (.tmp 110)) Option.none)]) (.seq (.region [(.mk (Option.some 111) (.mv (.tmp 16)) Option.none), (.mk (Option.some 112) (.mv (.tmp 17)) Option.none), (.mk
  (Option.some 113) (.bin .lss (.tmp 111) (.tmp 112)) Option.none)]) (.cond (.tmp 113) (.seq (.region [(.mk (Option.some 114) (.mv (.tmp 16)) Option.none), (.mk (Option.some 115)
  (.mv (.tmp 18)) Option.none), (.mk (Option.some 116) (.bin .geq (.tmp 114) (.tmp 115)) Option.none), (.mk (Option.some 8) (.mv (.tmp 116)) Option.none)]) (.seq (.region [(.mk
  (Option.some 117) (.mv (.tmp 0)) Option.none), (.mk (Option.some 118) (.mv (.tmp 1)) Option.none), (.mk (Option.some 119) (.mv (.tmp 14)) Option.none), (.mk (Option.some 120)
  (.mv (.tmp 3)) Option.none), (.mk (Option.some 121) (.call 278 [(.tmp 117), (.tmp 118), (.tmp 119), (.tmp 120)]) Option.none)]) (.region [(.mk (Option.some 122) (.mv (.tmp 14))
  Option.none), (.mk (Option.some 123) (.bin .add (.tmp 122) (.const (.int .i64 1))) Option.none), (.mk (Option.some 1) (.mv (.tmp 123)) Option.none)]))) (.seq (.region [(.mk
  (Option.some 124) (.mv (.tmp 17)) Option.none), (.mk (Option.some 125) (.mv (.tmp 18)) Option.none), (.mk (Option.some 126) (.bin .geq (.tmp 124) (.tmp 125)) Option.none), (.mk
  (Option.some 8) (.mv (.tmp 126)) Option.none)]) (.seq (.region [(.mk (Option.some 127) (.mv (.tmp 0)) Option.none), (.mk (Option.some 128) (.mv (.tmp 14)) Option.none), (.mk
  (Option.some 129) (.bin .add (.tmp 128) (.const (.int .i64 1))) Option.none), (.mk (Option.some 130) (.mv (.tmp 2)) Option.none), (.mk (Option.some 131) (.mv (.tmp 3))
  Option.none), (.mk (Option.some 132) (.call 278 [(.tmp 127), (.tmp 129), (.tmp 130), (.tmp 131)]) Option.none)]) (.region [(.mk (Option.some 133) (.mv (.tmp 14)) Option.none),
  (.mk (Option.some 2) (.mv (.tmp 133)) Option.none)])))))))))))))))))))))) 134 [])
def a279 : AFn :=
  (.mk (.seq (.region [(.mk (Option.some 2) (.mv (.const (.bool Bool.false))) Option.none)]) (.seq (.seq (.region [(.mk (Option.some 5) (.mv (.tmp 0)) Option.none), (.mk (Option.some
  6) (.bytesOf (.tmp 5)) Option.none), (.mk (Option.some 7) (.len (.tmp 6)) Option.none), (.mk (Option.some 8) (.mv (.const (.int .i64 0))) Option.none)]) (.block 0 (.loop (.seq
  (.region [(.mk (Option.some 9) (.bin .lss (.tmp 8) (.tmp 7)) Option.none)]) (.seq (.cond (.tmp 9) .skip (.exit 0)) (.seq (.block 1 (.seq (.region [(.mk (Option.some 10) (.atSlice
  1 (.tmp 6) (.tmp 8)) Option.none), (.mk (Option.some 11) (.load 1 Bool.false (.tmp 10)) Option.none), (.mk (Option.some 4) (.mv (.tmp 11)) Option.none)]) (.seq (.region [(.mk
  (Option.some 12) (.mv (.tmp 4)) Option.none), (.mk (Option.some 13) (.bin .geq (.tmp 12) (.const (.int .u8 97))) Option.none), (.mk (Option.some 14) (.mv (.tmp 13)) Option.none),
  (.mk (Option.some 15) (.mv (.tmp 4)) (Option.some (14, Bool.true))), (.mk (Option.some 16) (.bin .leq (.tmp 15) (.const (.int .u8 122))) (Option.some (14, Bool.true))), (.mk
  (Option.some 17) (.pick (.tmp 14) (.tmp 16) (.const (.bool Bool.false))) Option.none), (.mk (Option.some 18) (.mv (.tmp 17)) Option.none), (.mk (Option.some 19) (.mv (.tmp 4))
  (Option.some (18, Bool.false))), (.mk (Option.some 20) (.bin .geq (.tmp 19) (.const (.int .u8 48))) (Option.some (18, Bool.false))), (.mk (Option.some 21) (.mv (.tmp 20))
  (Option.some (18, Bool.false))), (.mk (Option.some 22) (.mv (.tmp 4)) (Option.some (21, Bool.true))), (.mk (Option.some 23) (.bin .leq (.tmp 22) (.const (.int .u8 57)))
  (Option.some (21, Bool.true))), (.mk (Option.some 24) (.pick (.tmp 21) (.tmp 23) (.const (.bool Bool.false))) (Option.some (18, Bool.false))), (.mk (Option.some 25) (.pick (.tmp
  18) (.const (.bool Bool.true)) (.tmp 24)) Option.none), (.mk (Option.some 26) (.mv (.tmp 25)) Option.none), (.mk (Option.some 27) (.mv (.tmp 4)) (Option.some (26, Bool.false))),
  (.mk (Option.some 28) (.bin .eql (.tmp 27) (.const (.int .u8 46))) (Option.some (26, Bool.false))), (.mk (Option.some 29) (.pick (.tmp 26) (.const (.bool Bool.true)) (.tmp 28))
  Option.none), (.mk (Option.some 30) (.mv (.tmp 29)) Option.none), (.mk (Option.some 31) (.mv (.tmp 4)) (Option.some (30, Bool.false))), (.mk (Option.some 32) (.bin .eql (.tmp 31)
  (.const (.int .u8 95))) (Option.some (30, Bool.false))), (.mk (Option.some 33) (.pick (.tmp 30) (.const (.bool Bool.true)) (.tmp 32)) Option.none), (.mk (Option.some 34) (.un
  .not (.tmp 33)) Option.none)]) (.cond (.tmp 34) (.seq (.region [(.mk (Option.some 2) (.mv (.const (.bool Bool.false))) Option.none)]) .ret) .skip)))) (.region [(.mk (Option.some
  35) (.bin .add (.tmp 8) (.const (.int .i64 1))) Option.none), (.mk (Option.some 8) (.mv (.tmp 35)) Option.none)]))))))) (.seq (.region [(.mk (Option.some 36) (.mv (.tmp 0))
  Option.none), (.mk (Option.some 37) (.bin .neq (.tmp 36) (.const (.string (ByteArray.mk #[])))) Option.none), (.mk (Option.some 2) (.mv (.tmp 37)) Option.none)]) .ret))) 38
  [(.tmp 2)])
def a287 : AFn :=
  (.mk (.seq (.region [(.mk (Option.some 6) (.mv (.const (.bool Bool.false))) Option.none)]) (.block 0 (.loop (.block 1 (.seq (.seq (.region [(.mk (Option.some 14) (.mv (.tmp 2))
  Option.none), (.mk (Option.some 15) (.mv (.tmp 14)) Option.none), (.mk (Option.some 16) (.mv (.tmp 0)) (Option.some (15, Bool.true))), (.mk (Option.some 17) (.mv (.tmp 1))
  (Option.some (15, Bool.true))), (.mk (Option.some 18) (.eq (.dyn [15, 17, 22, 24, 25, 26, 54, 58, 66, 77, 79, 85, 100, 103, 105, 122, 150, 155, 182, 198, 229, 245, 251, 327, 343,
  349, 352, 431, 483, 511]) Bool.false (.tmp 16) (.tmp 17)) (Option.some (15, Bool.true))), (.mk (Option.some 19) (.pick (.tmp 15) (.tmp 18) (.const (.bool Bool.false)))
  Option.none)]) (.cond (.tmp 19) (.seq (.region [(.mk (Option.some 6) (.mv (.const (.bool Bool.true))) Option.none)]) .ret) .skip)) (.seq (.seq (.region [(.mk (Option.some 21)
  (.mv (.tmp 0)) Option.none), (.mk (Option.some 22) (.isIface [229] [8, 10, 11, 14, 15, 16, 17, 19, 22, 24, 25, 26, 32, 54, 58, 66, 77, 79, 85, 100, 103, 105, 122, 138, 150, 155,
  182, 198, 235, 236, 245, 251, 253, 254, 255, 271, 327, 343, 349, 350, 351, 352, 353, 354, 359, 360, 361, 366, 429, 430, 431, 483, 511] Bool.true (.tmp 21)) Option.none), (.mk
  (Option.some 20) (.mv (.tmp 22)) Option.none), (.mk (Option.some 23) (.extract (.tmp 20) 0) Option.none), (.mk (Option.some 24) (.extract (.tmp 20) 1) Option.none), (.mk
  (Option.some 7) (.mv (.tmp 23)) Option.none), (.mk (Option.some 8) (.mv (.tmp 24)) Option.none)]) (.seq (.region [(.mk (Option.some 25) (.mv (.tmp 8)) Option.none), (.mk
  (Option.some 26) (.mv (.tmp 25)) Option.none), (.mk (Option.some 27) (.mv (.tmp 7)) (Option.some (26, Bool.true))), (.mk (Option.some 28) (.mv (.tmp 1)) (Option.some (26,
  Bool.true))), (.mk (Option.some 29) (.invoke (.tmp 27) [(229, (439, Option.none))] [(.tmp 28)]) (Option.some (26, Bool.true))), (.mk (Option.some 30) (.pick (.tmp 26) (.tmp 29)
  (.const (.bool Bool.false))) Option.none)]) (.cond (.tmp 30) (.seq (.region [(.mk (Option.some 6) (.mv (.const (.bool Bool.true))) Option.none)]) .ret) .skip))) (.seq (.region
  [(.mk (Option.some 31) (.mv (.tmp 0)) Option.none)]) (.block 2 (.seq (.region [(.mk (Option.some 32) (.isIface [251, 253, 254, 255, 349, 350, 351, 352, 353, 354] [8, 10, 11, 14,
  15, 16, 17, 19, 22, 24, 25, 26, 32, 54, 58, 66, 77, 79, 85, 100, 103, 105, 122, 138, 150, 155, 182, 198, 229, 235, 236, 245, 271, 327, 343, 359, 360, 361, 366, 429, 430, 431,
  483, 511] Bool.true (.tmp 31)) Option.none), (.mk (Option.some 33) (.extract (.tmp 32) 1) Option.none), (.mk (Option.some 34) (.extract (.tmp 32) 0) Option.none)]) (.cond (.tmp
  33) (.seq (.region [(.mk (Option.some 9) (.mv (.tmp 34)) Option.none)]) (.seq (.region [(.mk (Option.some 35) (.mv (.tmp 9)) Option.none), (.mk (Option.some 36) (.invoke (.tmp
  35) [(251, (441, (Option.some (0, (1, Bool.true))))), (253, (441, Option.none)), (349, (441, (Option.some (0, (1, Bool.true))))), (352, (441, (Option.some (0, (1, Bool.true)))))]
  []) Option.none), (.mk (Option.some 0) (.mv (.tmp 36)) Option.none)]) (.seq (.region [(.mk (Option.some 37) (.mv (.tmp 0)) Option.none), (.mk (Option.some 38) (.eq (.iface
  Bool.true) Bool.false (.tmp 37) (.const .nilIface)) Option.none)]) (.cond (.tmp 38) (.seq (.region [(.mk (Option.some 6) (.mv (.const (.bool Bool.false))) Option.none)]) .ret)
  .skip)))) (.seq (.region [(.mk (Option.some 39) (.isIface [] [8, 10, 11, 14, 15, 16, 17, 19, 22, 24, 25, 26, 32, 54, 58, 66, 77, 79, 85, 100, 103, 105, 122, 138, 150, 155, 182,
  198, 229, 235, 236, 245, 251, 253, 254, 255, 271, 327, 343, 349, 350, 351, 352, 353, 354, 359, 360, 361, 366, 429, 430, 431, 483, 511] Bool.true (.tmp 31)) Option.none), (.mk
  (Option.some 40) (.extract (.tmp 39) 1) Option.none), (.mk (Option.some 41) (.extract (.tmp 39) 0) Option.none)]) (.cond (.tmp 40) (.seq (.region [(.mk (Option.some 10) (.mv
  (.tmp 41)) Option.none)]) (.seq (.seq (.region [(.mk (Option.some 42) (.mv (.tmp 10)) Option.none), (.mk (Option.some 43) (.invoke (.tmp 42) [(251, (441, (Option.some (0, (1,
  Bool.true))))), (253, (441, Option.none)), (349, (441, (Option.some (0, (1, Bool.true))))), (352, (441, (Option.some (0, (1, Bool.true)))))] []) Option.none), (.mk (Option.some
  44) (.len (.tmp 43)) Option.none), (.mk (Option.some 45) (.mv (.const (.int .i64 0))) Option.none)]) (.block 3 (.loop (.seq (.region [(.mk (Option.some 46) (.bin .lss (.tmp 45)
  (.tmp 44)) Option.none)]) (.seq (.cond (.tmp 46) .skip (.exit 3)) (.seq (.block 4 (.seq (.region [(.mk (Option.some 47) (.atSlice 1 (.tmp 43) (.tmp 45)) Option.none), (.mk
  (Option.some 48) (.load 1 Bool.false (.tmp 47)) Option.none), (.mk (Option.some 12) (.mv (.tmp 48)) Option.none)]) (.seq (.region [(.mk (Option.some 49) (.mv (.tmp 12))
  Option.none), (.mk (Option.some 50) (.mv (.tmp 1)) Option.none), (.mk (Option.some 51) (.mv (.tmp 2)) Option.none), (.mk (Option.some 52) (.call 287 [(.tmp 49), (.tmp 50), (.tmp
  51)]) Option.none)]) (.cond (.tmp 52) (.seq (.region [(.mk (Option.some 6) (.mv (.const (.bool Bool.true))) Option.none)]) .ret) .skip)))) (.region [(.mk (Option.some 53) (.bin
  .add (.tmp 45) (.const (.int .i64 1))) Option.none), (.mk (Option.some 45) (.mv (.tmp 53)) Option.none)]))))))) (.seq (.region [(.mk (Option.some 6) (.mv (.const (.bool
  Bool.false))) Option.none)]) .ret))) (.seq (.region [(.mk (Option.some 13) (.mv (.tmp 31)) Option.none)]) (.seq (.region [(.mk (Option.some 6) (.mv (.const (.bool Bool.false)))
  Option.none)]) .ret)))))))))))))) 54 [(.tmp 6)])
def a289 : AFn :=
  (.mk (.seq (.region [(.mk (Option.some 2) (.box (.tmp 0)) Option.none), (.mk (Option.some 4) (.mv (.const (.slice Option.none 0 0))) Option.none)]) (.seq (.seq (.region [(.mk
  (Option.some 6) (.mv (.tmp 1)) Option.none)]) (.block 0 (.rangeF (.tmp 6) [7] 13 (.region [(.mk (Option.some 5) (.mv (.tmp 7)) Option.none)]) (.block 1 (.region [(.mk
  (Option.some 8) (.load 1 Bool.false (.tmp 2)) Option.none), (.mk (Option.some 9) (.mv (.tmp 5)) Option.none), (.mk (Option.some 10) (.buildSlice 1 1 [(.int .i64 0)] [(0, (1,
  (.tmp 9)))]) Option.none), (.mk (Option.some 11) (.append Bool.false 1 8 (.tmp 8) (.tmp 10)) Option.none), (.mk Option.none (.store 1 (.tmp 2) (.tmp 11)) Option.none)]))))) (.seq
  (.region [(.mk (Option.some 12) (.load 1 Bool.false (.tmp 2)) Option.none), (.mk (Option.some 4) (.mv (.tmp 12)) Option.none)]) .ret))) 13 [(.tmp 4)])
def a297 : AFn :=
  (.mk (.seq (.region [(.mk (Option.some 4) (.mv (.const (.int .i64 0))) Option.none), (.mk (Option.some 5) (.mv (.const (.bool Bool.false))) Option.none)]) (.seq (.region [(.mk
  (Option.some 6) (.mv (.tmp 0)) Option.none), (.mk (Option.some 7) (.nilCheck (.tmp 6)) Option.none), (.mk (Option.some 8) (.fieldAddr 0 (.tmp 7)) Option.none), (.mk (Option.some
  9) (.load 1 Bool.false (.tmp 8)) Option.none), (.mk (Option.some 10) (.mv (.tmp 1)) Option.none), (.mk (Option.some 11) (.call 372 [(.tmp 9), (.tmp 10), (.func 373)])
  Option.none), (.mk (Option.some 12) (.extract (.tmp 11) 0) Option.none), (.mk (Option.some 13) (.extract (.tmp 11) 1) Option.none), (.mk (Option.some 4) (.mv (.tmp 12))
  Option.none), (.mk (Option.some 5) (.mv (.tmp 13)) Option.none)]) .ret)) 14 [(.tmp 4), (.tmp 5)])
def a299 : AFn :=
  (.mk (.seq (.region [(.mk (Option.some 6) (.mv (.const (.int .i64 20))) Option.none)]) (.seq (.region [(.mk (Option.some 10) (.mv (.tmp 6)) Option.none), (.mk (Option.some 7) (.mv
  (.const (.int .i64 0))) Option.none), (.mk (Option.some 8) (.mv (.tmp 10)) Option.none)]) (.seq (.block 0 (.loop (.seq (.seq (.region [(.mk (Option.some 11) (.mv (.tmp 8))
  Option.none), (.mk (Option.some 12) (.mv (.tmp 1)) Option.none), (.mk (Option.some 13) (.bin .leq (.tmp 11) (.tmp 12)) Option.none)]) (.cond (.tmp 13) .skip (.exit 0))) (.block 1
  (.seq (.region [(.mk (Option.some 14) (.mv (.tmp 0)) Option.none), (.mk (Option.some 15) (.mv (.tmp 7)) Option.none), (.mk (Option.some 16) (.mv (.tmp 8)) Option.none), (.mk
  (Option.some 17) (.mv (.tmp 2)) Option.none), (.mk (Option.some 18) (.call 377 [(.tmp 14), (.tmp 15), (.tmp 16), (.tmp 17)]) Option.none)]) (.seq (.region [(.mk (Option.some 19)
  (.mv (.tmp 8)) Option.none), (.mk (Option.some 7) (.mv (.tmp 19)) Option.none)]) (.region [(.mk (Option.some 20) (.mv (.tmp 8)) Option.none), (.mk (Option.some 21) (.mv (.tmp 6))
  Option.none), (.mk (Option.some 22) (.bin .add (.tmp 20) (.tmp 21)) Option.none), (.mk (Option.some 8) (.mv (.tmp 22)) Option.none)]))))))) (.seq (.region [(.mk (Option.some 23)
  (.mv (.tmp 0)) Option.none), (.mk (Option.some 24) (.mv (.tmp 7)) Option.none), (.mk (Option.some 25) (.mv (.tmp 1)) Option.none), (.mk (Option.some 26) (.mv (.tmp 2))
  Option.none), (.mk (Option.some 27) (.call 377 [(.tmp 23), (.tmp 24), (.tmp 25), (.tmp 26)]) Option.none)]) (.block 2 (.loop (.seq (.seq (.region [(.mk (Option.some 28) (.mv
  (.tmp 6)) Option.none), (.mk (Option.some 29) (.mv (.tmp 1)) Option.none), (.mk (Option.some 30) (.bin .lss (.tmp 28) (.tmp 29)) Option.none)]) (.cond (.tmp 30) .skip (.exit 2)))
  (.block 3 (.seq (.region [(.mk (Option.some 31) (.mv (.tmp 6)) Option.none), (.mk (Option.some 32) (.bin .mul (.const (.int .i64 2)) (.tmp 31)) Option.none), (.mk (Option.some 7)
  (.mv (.const (.int .i64 0))) Option.none), (.mk (Option.some 8) (.mv (.tmp 32)) Option.none)]) (.seq (.block 4 (.loop (.seq (.seq (.region [(.mk (Option.some 33) (.mv (.tmp 8))
  Option.none), (.mk (Option.some 34) (.mv (.tmp 1)) Option.none), (.mk (Option.some 35) (.bin .leq (.tmp 33) (.tmp 34)) Option.none)]) (.cond (.tmp 35) .skip (.exit 4))) (.block 5
  (.seq (.region [(.mk (Option.some 36) (.mv (.tmp 0)) Option.none), (.mk (Option.some 37) (.mv (.tmp 7)) Option.none), (.mk (Option.some 38) (.mv (.tmp 7)) Option.none), (.mk
  (Option.some 39) (.mv (.tmp 6)) Option.none), (.mk (Option.some 40) (.bin .add (.tmp 38) (.tmp 39)) Option.none), (.mk (Option.some 41) (.mv (.tmp 8)) Option.none), (.mk
  (Option.some 42) (.mv (.tmp 2)) Option.none), (.mk (Option.some 43) (.call 378 [(.tmp 36), (.tmp 37), (.tmp 40), (.tmp 41), (.tmp 42)]) Option.none)]) (.seq (.region [(.mk
  (Option.some 44) (.mv (.tmp 8)) Option.none), (.mk (Option.some 7) (.mv (.tmp 44)) Option.none)]) (.region [(.mk (Option.some 45) (.mv (.tmp 8)) Option.none), (.mk (Option.some
  46) (.mv (.tmp 6)) Option.none), (.mk (Option.some 47) (.bin .mul (.const (.int .i64 2)) (.tmp 46)) Option.none), (.mk (Option.some 48) (.bin .add (.tmp 45) (.tmp 47))
  Option.none), (.mk (Option.some 8) (.mv (.tmp 48)) Option.none)]))))))) (.seq (.seq (.region [(.mk (Option.some 49) (.mv (.tmp 7)) Option.none), (.mk (Option.some 50) (.mv (.tmp
  6)) Option.none), (.mk (Option.some 51) (.bin .add (.tmp 49) (.tmp 50)) Option.none), (.mk (Option.some 9) (.mv (.tmp 51)) Option.none)]) (.seq (.region [(.mk (Option.some 52)
  (.mv (.tmp 9)) Option.none), (.mk (Option.some 53) (.mv (.tmp 1)) Option.none), (.mk (Option.some 54) (.bin .lss (.tmp 52) (.tmp 53)) Option.none)]) (.cond (.tmp 54) (.region
  [(.mk (Option.some 55) (.mv (.tmp 0)) Option.none), (.mk (Option.some 56) (.mv (.tmp 7)) Option.none), (.mk (Option.some 57) (.mv (.tmp 9)) Option.none), (.mk (Option.some 58)
  (.mv (.tmp 1)) Option.none), (.mk (Option.some 59) (.mv (.tmp 2)) Option.none), (.mk (Option.some 60) (.call 378 [(.tmp 55), (.tmp 56), (.tmp 57), (.tmp 58), (.tmp 59)])
  Option.none)]) .skip))) (.region [(.mk (Option.some 61) (.mv (.tmp 6)) Option.none), (.mk (Option.some 62) (.bin .mul (.tmp 61) (.const (.int .i64 2))) Option.none), (.mk
  (Option.some 6) (.mv (.tmp 62)) Option.none)])))))))))))) 63 [])
def a301 : AFn :=
  (.mk (.seq (.region [(.mk (Option.some 8) (.alloc [(.int .i64 0), (.int .i64 0), (.bool Bool.false), (.int .i64 0), (.bool Bool.false)]) Option.none)]) (.seq (.seq (.region [(.mk
  (Option.some 9) (.mv (.tmp 2)) Option.none), (.mk (Option.some 10) (.un .not (.tmp 9)) Option.none)]) (.cond (.tmp 10) (.region [(.mk (Option.some 1) (.mv (.const (.int .i64 0)))
  Option.none)]) .skip)) (.seq (.region [(.mk (Option.some 11) (.mv (.tmp 0)) Option.none), (.mk (Option.some 12) (.mv (.tmp 1)) Option.none), (.mk (Option.some 13) (.mv (.tmp 2))
  Option.none), (.mk (Option.some 14) (.mv (.tmp 3)) Option.none), (.mk (Option.some 15) (.build [(.int .i64 0), (.int .i64 0), (.bool Bool.false), (.int .i64 0), (.bool
  Bool.false)] [(0, (1, (.tmp 11))), (1, (1, (.tmp 12))), (2, (1, (.tmp 13))), (4, (1, (.tmp 14)))]) Option.none), (.mk Option.none (.store 5 (.tmp 8) (.tmp 15)) Option.none)])
  .ret))) 16 [(.cell 8 5 Bool.true)])
def a302 : AFn :=
  (.mk (.seq (.region [(.mk (Option.some 4) (.mv (.const (.int .i64 0))) Option.none)]) (.seq (.region [(.mk (Option.some 8) (.mv (.tmp 0)) Option.none), (.mk (Option.some 5) (.mv
  (.const (.int .i64 0))) Option.none), (.mk (Option.some 6) (.mv (.tmp 8)) Option.none)]) (.seq (.block 0 (.loop (.seq (.seq (.region [(.mk (Option.some 9) (.mv (.tmp 5))
  Option.none), (.mk (Option.some 10) (.mv (.tmp 6)) Option.none), (.mk (Option.some 11) (.bin .lss (.tmp 9) (.tmp 10)) Option.none)]) (.cond (.tmp 11) .skip (.exit 0))) (.block 1
  (.seq (.region [(.mk (Option.some 12) (.mv (.tmp 5)) Option.none), (.mk (Option.some 13) (.mv (.tmp 6)) Option.none), (.mk (Option.some 14) (.bin .add (.tmp 12) (.tmp 13))
  Option.none), (.mk (Option.some 15) (.conv .u64 (.tmp 14)) Option.none), (.mk (Option.some 16) (.bin .shr (.tmp 15) (.const (.int .u64 1))) Option.none), (.mk (Option.some 17)
  (.conv .i64 (.tmp 16)) Option.none), (.mk (Option.some 7) (.mv (.tmp 17)) Option.none)]) (.seq (.region [(.mk (Option.some 18) (.mv (.tmp 1)) Option.none), (.mk (Option.some 19)
  (.mv (.tmp 7)) Option.none), (.mk (Option.some 20) (.callv (.tmp 18) [(.tmp 19)]) Option.none), (.mk (Option.some 21) (.un .not (.tmp 20)) Option.none)]) (.cond (.tmp 21)
  (.region [(.mk (Option.some 22) (.mv (.tmp 7)) Option.none), (.mk (Option.some 23) (.bin .add (.tmp 22) (.const (.int .i64 1))) Option.none), (.mk (Option.some 5) (.mv (.tmp 23))
  Option.none)]) (.region [(.mk (Option.some 24) (.mv (.tmp 7)) Option.none), (.mk (Option.some 6) (.mv (.tmp 24)) Option.none)])))))))) (.seq (.region [(.mk (Option.some 25) (.mv
  (.tmp 5)) Option.none), (.mk (Option.some 4) (.mv (.tmp 25)) Option.none)]) .ret)))) 26 [(.tmp 4)])
def a303 : AFn :=
  (.mk (.seq (.region [(.mk (Option.some 4) (.mv (.const (.bool Bool.false))) Option.none)]) (.seq (.draws [((.mk (Option.some 5) (.load 1 Bool.false (.tmp 1)) Option.none), (0,
  11)), ((.mk (Option.some 6) (.nilCheck (.tmp 5)) Option.none), (0, 11)), ((.mk (Option.some 7) (.fieldAddr 0 (.tmp 6)) Option.none), (0, 11)), ((.mk (Option.some 8) (.load 1
  Bool.false (.tmp 7)) Option.none), (0, 11)), ((.mk (Option.some 9) (.mv (.tmp 0)) Option.none), (0, 11)), ((.mk (Option.some 10) (.atSlice 5 (.tmp 8) (.tmp 9)) Option.none), (0,
  11)), ((.mk (Option.some 11) (.fieldAddr 0 (.tmp 10)) Option.none), (0, 11)), ((.mk (Option.some 12) (.load 1 Bool.false (.tmp 11)) Option.none), (0, 11)), ((.mk (Option.some 13)
  (.load 1 Bool.false (.tmp 2)) Option.none), (0, 11)), ((.mk (Option.some 14) (.bin .gtr (.tmp 12) (.tmp 13)) Option.none), (0, 11)), ((.mk (Option.some 4) (.mv (.tmp 14))
  Option.none), (0, 11))]) .ret)) 15 [(.tmp 4)])
def a304 : AFn :=
  (.mk (.seq (.region [(.mk (Option.some 4) (.mv (.const (.bool Bool.false))) Option.none)]) (.seq (.region [(.mk (Option.some 5) (.mv (.tmp 0)) Option.none), (.mk (Option.some 6)
  (.mv (.tmp 1)) Option.none), (.mk (Option.some 7) (.call 309 [(.tmp 5), (.tmp 6)]) Option.none), (.mk (Option.some 8) (.bin .geq (.tmp 7) (.const (.int .i64 0))) Option.none),
  (.mk (Option.some 4) (.mv (.tmp 8)) Option.none)]) .ret)) 9 [(.tmp 4)])
def a305 : AFn :=
  (.mk (.seq (.region [(.mk (Option.some 1) (.box (.tmp 0)) Option.none), (.mk (Option.some 2) (.mv (.const (.bool Bool.false))) Option.none)]) (.seq (.region [(.mk (Option.some 3)
  (.fieldAddr 2 (.tmp 1)) Option.none), (.mk (Option.some 4) (.load 1 Bool.false (.tmp 3)) Option.none), (.mk (Option.some 2) (.mv (.tmp 4)) Option.none)]) .ret)) 5 [(.tmp 2)])
def a306 : AFn :=
  (.mk (.seq (.region [(.mk (Option.some 6) (.mv (.const (.slice Option.none 0 0))) Option.none)]) (.seq (.region [(.mk (Option.some 10) (.mv (.tmp 0)) Option.none), (.mk
  (Option.some 11) (.mv (.tmp 1)) Option.none), (.mk (Option.some 12) (.cutSlice 5 (.tmp 10) (Option.some (.tmp 11)) Option.none Option.none) Option.none)]) (.seq (.region [(.mk
  (Option.some 13) (.mv (.tmp 2)) Option.none), (.mk (Option.some 14) (.len (.tmp 13)) Option.none), (.mk (Option.some 7) (.mv (.tmp 14)) Option.none)]) (.seq (.seq (.region [(.mk
  (Option.some 15) (.mv (.tmp 7)) Option.none), (.mk (Option.some 16) (.bin .eql (.tmp 15) (.const (.int .i64 0))) Option.none)]) (.cond (.tmp 16) (.seq (.region [(.mk (Option.some
  17) (.mv (.tmp 0)) Option.none), (.mk (Option.some 6) (.mv (.tmp 17)) Option.none)]) .ret) .skip)) (.seq (.region [(.mk (Option.some 18) (.mv (.tmp 0)) Option.none), (.mk
  (Option.some 19) (.len (.tmp 18)) Option.none), (.mk (Option.some 8) (.mv (.tmp 19)) Option.none)]) (.seq (.seq (.region [(.mk (Option.some 20) (.mv (.tmp 1)) Option.none), (.mk
  (Option.some 21) (.mv (.tmp 8)) Option.none), (.mk (Option.some 22) (.bin .eql (.tmp 20) (.tmp 21)) Option.none)]) (.cond (.tmp 22) (.seq (.region [(.mk (Option.some 23) (.mv
  (.tmp 0)) Option.none), (.mk (Option.some 24) (.mv (.tmp 2)) Option.none), (.mk (Option.some 25) (.append Bool.false 5 40 (.tmp 23) (.tmp 24)) Option.none), (.mk (Option.some 6)
  (.mv (.tmp 25)) Option.none)]) .ret) .skip)) (.seq (.seq (.region [(.mk (Option.some 26) (.mv (.tmp 8)) Option.none), (.mk (Option.some 27) (.mv (.tmp 7)) Option.none), (.mk
  (Option.some 28) (.bin .add (.tmp 26) (.tmp 27)) Option.none), (.mk (Option.some 29) (.mv (.tmp 0)) Option.none), (.mk (Option.some 30) (.cap (.tmp 29)) Option.none), (.mk
  (Option.some 31) (.bin .gtr (.tmp 28) (.tmp 30)) Option.none)]) (.cond (.tmp 31) (.seq (.region [(.mk (Option.some 32) (.mv (.tmp 0)) Option.none), (.mk (Option.some 33) (.mv
  (.tmp 1)) Option.none), (.mk (Option.some 34) (.cutSlice 5 (.tmp 32) Option.none (Option.some (.tmp 33)) Option.none) Option.none), (.mk (Option.some 35) (.mv (.tmp 8))
  Option.none), (.mk (Option.some 36) (.mv (.tmp 7)) Option.none), (.mk (Option.some 37) (.bin .add (.tmp 35) (.tmp 36)) Option.none), (.mk (Option.some 38) (.mv (.tmp 1))
  Option.none), (.mk (Option.some 39) (.bin .sub (.tmp 37) (.tmp 38)) Option.none), (.mk (Option.some 40) (.appendZ 5 40 [(.int .i64 0), (.int .i64 0), (.bool Bool.false), (.int
  .i64 0), (.bool Bool.false)] (.tmp 34) (.tmp 39)) Option.none), (.mk (Option.some 9) (.mv (.tmp 40)) Option.none)]) (.seq (.region [(.mk (Option.some 41) (.mv (.tmp 9))
  Option.none), (.mk (Option.some 42) (.mv (.tmp 1)) Option.none), (.mk (Option.some 43) (.cutSlice 5 (.tmp 41) (Option.some (.tmp 42)) Option.none Option.none) Option.none), (.mk
  (Option.some 44) (.mv (.tmp 2)) Option.none), (.mk (Option.some 45) (.extract (.const (.bool Bool.false)) 0) Option.none)]) (.seq (.draws [((.mk (Option.some 46) (.mv (.tmp 9))
  Option.none), (0, 9)), ((.mk (Option.some 47) (.mv (.tmp 1)) Option.none), (0, 9)), ((.mk (Option.some 48) (.mv (.tmp 7)) Option.none), (0, 9)), ((.mk (Option.some 49) (.bin .add
  (.tmp 47) (.tmp 48)) Option.none), (0, 9)), ((.mk (Option.some 50) (.cutSlice 5 (.tmp 46) (Option.some (.tmp 49)) Option.none Option.none) Option.none), (0, 9)), ((.mk
  (Option.some 51) (.mv (.tmp 0)) Option.none), (0, 9)), ((.mk (Option.some 52) (.mv (.tmp 1)) Option.none), (0, 9)), ((.mk (Option.some 53) (.cutSlice 5 (.tmp 51) (Option.some
  (.tmp 52)) Option.none Option.none) Option.none), (0, 9)), ((.mk (Option.some 54) (.extract (.const (.bool Bool.false)) 0) Option.none), (0, 9))]) (.seq (.region [(.mk
  (Option.some 55) (.mv (.tmp 9)) Option.none), (.mk (Option.some 6) (.mv (.tmp 55)) Option.none)]) .ret)))) .skip)) (.seq (.region [(.mk (Option.some 56) (.mv (.tmp 0))
  Option.none), (.mk (Option.some 57) (.mv (.tmp 8)) Option.none), (.mk (Option.some 58) (.mv (.tmp 7)) Option.none), (.mk (Option.some 59) (.bin .add (.tmp 57) (.tmp 58))
  Option.none), (.mk (Option.some 60) (.cutSlice 5 (.tmp 56) Option.none (Option.some (.tmp 59)) Option.none) Option.none), (.mk (Option.some 0) (.mv (.tmp 60)) Option.none)])
  (.seq (.seq (.region [(.mk (Option.some 61) (.mv (.tmp 2)) Option.none), (.mk (Option.some 62) (.mv (.tmp 0)) Option.none), (.mk (Option.some 63) (.mv (.tmp 1)) Option.none),
  (.mk (Option.some 64) (.mv (.tmp 7)) Option.none), (.mk (Option.some 65) (.bin .add (.tmp 63) (.tmp 64)) Option.none), (.mk (Option.some 66) (.cutSlice 5 (.tmp 62) (Option.some
  (.tmp 65)) Option.none Option.none) Option.none), (.mk (Option.some 67) (.call 379 [(.tmp 61), (.tmp 66)]) Option.none), (.mk (Option.some 68) (.un .not (.tmp 67)) Option.none)])
  (.cond (.tmp 68) (.seq (.draws [((.mk (Option.some 69) (.mv (.tmp 0)) Option.none), (0, 9)), ((.mk (Option.some 70) (.mv (.tmp 1)) Option.none), (0, 9)), ((.mk (Option.some 71)
  (.mv (.tmp 7)) Option.none), (0, 9)), ((.mk (Option.some 72) (.bin .add (.tmp 70) (.tmp 71)) Option.none), (0, 9)), ((.mk (Option.some 73) (.cutSlice 5 (.tmp 69) (Option.some
  (.tmp 72)) Option.none Option.none) Option.none), (0, 9)), ((.mk (Option.some 74) (.mv (.tmp 0)) Option.none), (0, 9)), ((.mk (Option.some 75) (.mv (.tmp 1)) Option.none), (0,
  9)), ((.mk (Option.some 76) (.cutSlice 5 (.tmp 74) (Option.some (.tmp 75)) Option.none Option.none) Option.none), (0, 9)), ((.mk (Option.some 77) (.extract (.const (.bool
  Bool.false)) 0) Option.none), (0, 9))]) (.seq (.region [(.mk (Option.some 78) (.mv (.tmp 0)) Option.none), (.mk (Option.some 79) (.mv (.tmp 1)) Option.none), (.mk (Option.some
  80) (.cutSlice 5 (.tmp 78) (Option.some (.tmp 79)) Option.none Option.none) Option.none), (.mk (Option.some 81) (.mv (.tmp 2)) Option.none), (.mk (Option.some 82) (.extract
  (.const (.bool Bool.false)) 0) Option.none)]) (.seq (.region [(.mk (Option.some 83) (.mv (.tmp 0)) Option.none), (.mk (Option.some 6) (.mv (.tmp 83)) Option.none)]) .ret)))
  .skip)) (.seq (.region [(.mk (Option.some 84) (.mv (.tmp 0)) Option.none), (.mk (Option.some 85) (.mv (.tmp 8)) Option.none), (.mk (Option.some 86) (.cutSlice 5 (.tmp 84)
  (Option.some (.tmp 85)) Option.none Option.none) Option.none), (.mk (Option.some 87) (.mv (.tmp 2)) Option.none), (.mk (Option.some 88) (.extract (.const (.bool Bool.false)) 0)
  Option.none)]) (.seq (.region [(.mk (Option.some 89) (.mv (.tmp 0)) Option.none), (.mk (Option.some 90) (.mv (.tmp 1)) Option.none), (.mk (Option.some 91) (.cutSlice 5 (.tmp 89)
  (Option.some (.tmp 90)) Option.none Option.none) Option.none), (.mk (Option.some 92) (.mv (.tmp 7)) Option.none), (.mk (Option.some 93) (.call 380 [(.tmp 91), (.tmp 92)])
  Option.none)]) (.seq (.region [(.mk (Option.some 94) (.mv (.tmp 0)) Option.none), (.mk (Option.some 6) (.mv (.tmp 94)) Option.none)]) .ret)))))))))))) 95 [(.tmp 6)])
def a307 : AFn :=
  (.mk (.seq (.region [(.mk (Option.some 5) (.load 1 Bool.false (.tmp 1)) Option.none), (.mk (Option.some 6) (.len (.tmp 5)) Option.none), (.mk (Option.some 7) (.mv (.const (.int
  .i64 0))) Option.none)]) (.block 0 (.loop (.seq (.region [(.mk (Option.some 8) (.bin .lss (.tmp 7) (.tmp 6)) Option.none)]) (.seq (.cond (.tmp 8) .skip (.exit 0)) (.seq (.block 1
  (.seq (.region [(.mk (Option.some 9) (.atSlice 1 (.tmp 5) (.tmp 7)) Option.none), (.mk (Option.some 10) (.load 1 Bool.false (.tmp 9)) Option.none), (.mk (Option.some 4) (.mv
  (.tmp 10)) Option.none)]) (.seq (.region [(.mk (Option.some 11) (.mv (.tmp 0)) Option.none), (.mk (Option.some 12) (.mv (.tmp 4)) Option.none), (.mk (Option.some 13) (.callv
  (.tmp 11) [(.tmp 12)]) Option.none), (.mk (Option.some 14) (.un .not (.tmp 13)) Option.none)]) (.cond (.tmp 14) .ret .skip)))) (.region [(.mk (Option.some 15) (.bin .add (.tmp 7)
  (.const (.int .i64 1))) Option.none), (.mk (Option.some 7) (.mv (.tmp 15)) Option.none)]))))))) 16 [])
def a309 : AFn :=
  (.mk (.seq (.region [(.mk (Option.some 4) (.mv (.const (.int .i64 0))) Option.none)]) (.seq (.seq (.region [(.mk (Option.some 6) (.mv (.tmp 0)) Option.none), (.mk (Option.some 7)
  (.len (.tmp 6)) Option.none), (.mk (Option.some 8) (.mv (.const (.int .i64 0))) Option.none)]) (.block 0 (.loop (.seq (.region [(.mk (Option.some 9) (.bin .lss (.tmp 8) (.tmp 7))
  Option.none)]) (.seq (.cond (.tmp 9) .skip (.exit 0)) (.seq (.block 1 (.seq (.region [(.mk (Option.some 10) (.mv (.tmp 8)) Option.none), (.mk (Option.some 5) (.mv (.tmp 10))
  Option.none)]) (.seq (.region [(.mk (Option.some 11) (.mv (.tmp 1)) Option.none), (.mk (Option.some 12) (.mv (.tmp 0)) Option.none), (.mk (Option.some 13) (.mv (.tmp 5))
  Option.none), (.mk (Option.some 14) (.atSlice 5 (.tmp 12) (.tmp 13)) Option.none), (.mk (Option.some 15) (.load 5 Bool.true (.tmp 14)) Option.none), (.mk (Option.some 16) (.callv
  (.tmp 11) [(.tmp 15)]) Option.none)]) (.cond (.tmp 16) (.seq (.region [(.mk (Option.some 17) (.mv (.tmp 5)) Option.none), (.mk (Option.some 4) (.mv (.tmp 17)) Option.none)])
  .ret) .skip)))) (.region [(.mk (Option.some 18) (.bin .add (.tmp 8) (.const (.int .i64 1))) Option.none), (.mk (Option.some 8) (.mv (.tmp 18)) Option.none)]))))))) (.seq (.region
  [(.mk (Option.some 4) (.mv (.const (.int .i64 (-1)))) Option.none)]) .ret))) 19 [(.tmp 4)])
def a310 : AFn :=
  (.mk (.seq (.region [(.mk (Option.some 2) (.box (.tmp 0)) Option.none), (.mk (Option.some 3) (.mv (.const (.bool Bool.false))) Option.none)]) (.seq (.region [(.mk (Option.some 4)
  (.fieldAddr 4 (.tmp 2)) Option.none), (.mk (Option.some 5) (.load 1 Bool.false (.tmp 4)) Option.none), (.mk (Option.some 6) (.mv (.tmp 5)) Option.none), (.mk (Option.some 7)
  (.fieldAddr 0 (.tmp 2)) (Option.some (6, Bool.true))), (.mk (Option.some 8) (.load 1 Bool.false (.tmp 7)) (Option.some (6, Bool.true))), (.mk (Option.some 9) (.load 1 Bool.false
  (.tmp 1)) (Option.some (6, Bool.true))), (.mk (Option.some 10) (.bin .eql (.tmp 8) (.tmp 9)) (Option.some (6, Bool.true))), (.mk (Option.some 11) (.pick (.tmp 6) (.tmp 10)
  (.const (.bool Bool.false))) Option.none), (.mk (Option.some 3) (.mv (.tmp 11)) Option.none)]) .ret)) 12 [(.tmp 3)])
def a311 : AFn :=
  (.mk (.seq (.region [(.mk (Option.some 4) (.load 1 Bool.false (.tmp 1)) Option.none), (.mk (Option.some 5) (.len (.tmp 4)) Option.none), (.mk (Option.some 6) (.bin .sub (.tmp 5)
  (.const (.int .i64 1))) Option.none), (.mk (Option.some 3) (.mv (.tmp 6)) Option.none)]) (.block 0 (.loop (.seq (.seq (.region [(.mk (Option.some 7) (.mv (.tmp 3)) Option.none),
  (.mk (Option.some 8) (.bin .geq (.tmp 7) (.const (.int .i64 0))) Option.none)]) (.cond (.tmp 8) .skip (.exit 0))) (.seq (.block 1 (.seq (.region [(.mk (Option.some 11) (.mv (.tmp
  0)) Option.none), (.mk (Option.some 12) (.mv (.tmp 3)) Option.none), (.mk (Option.some 13) (.load 1 Bool.false (.tmp 1)) Option.none), (.mk (Option.some 14) (.mv (.tmp 3))
  Option.none), (.mk (Option.some 15) (.atSlice 5 (.tmp 13) (.tmp 14)) Option.none), (.mk (Option.some 16) (.load 5 Bool.true (.tmp 15)) Option.none), (.mk (Option.some 17) (.callv
  (.tmp 11) [(.tmp 12), (.tmp 16)]) Option.none), (.mk (Option.some 18) (.un .not (.tmp 17)) Option.none)]) (.cond (.tmp 18) .ret .skip))) (.region [(.mk (Option.some 9) (.mv (.tmp
  3)) Option.none), (.mk (Option.some 10) (.bin .sub (.tmp 9) (.const (.int .i64 1))) Option.none), (.mk (Option.some 3) (.mv (.tmp 10)) Option.none)])))))) 19 [])
def a312 : AFn :=
  (.mk (.seq (.region [(.mk (Option.some 10) (.mv (.tmp 1)) Option.none), (.mk (Option.some 11) (.bin .add (.tmp 10) (.const (.int .i64 1))) Option.none), (.mk (Option.some 8) (.mv
  (.tmp 11)) Option.none)]) (.block 0 (.loop (.seq (.seq (.region [(.mk (Option.some 12) (.mv (.tmp 8)) Option.none), (.mk (Option.some 13) (.mv (.tmp 2)) Option.none), (.mk
  (Option.some 14) (.bin .lss (.tmp 12) (.tmp 13)) Option.none)]) (.cond (.tmp 14) .skip (.exit 0))) (.seq (.block 1 (.seq (.region [(.mk (Option.some 17) (.mv (.tmp 8))
  Option.none), (.mk (Option.some 9) (.mv (.tmp 17)) Option.none)]) (.block 2 (.loop (.seq (.seq (.draws [((.mk (Option.some 18) (.mv (.tmp 9)) Option.none), (0, 14)), ((.mk
  (Option.some 19) (.mv (.tmp 1)) Option.none), (0, 14)), ((.mk (Option.some 20) (.bin .gtr (.tmp 18) (.tmp 19)) Option.none), (0, 14)), ((.mk (Option.some 21) (.mv (.tmp 20))
  Option.none), (0, 14)), ((.mk (Option.some 22) (.mv (.tmp 3)) (Option.some (21, Bool.true))), (0, 14)), ((.mk (Option.some 23) (.mv (.tmp 0)) (Option.some (21, Bool.true))), (0,
  14)), ((.mk (Option.some 24) (.mv (.tmp 9)) (Option.some (21, Bool.true))), (0, 14)), ((.mk (Option.some 25) (.atSlice 2 (.tmp 23) (.tmp 24)) (Option.some (21, Bool.true))), (0,
  14)), ((.mk (Option.some 26) (.load 2 Bool.true (.tmp 25)) (Option.some (21, Bool.true))), (0, 14)), ((.mk (Option.some 27) (.mv (.tmp 0)) (Option.some (21, Bool.true))), (0,
  14)), ((.mk (Option.some 28) (.mv (.tmp 9)) (Option.some (21, Bool.true))), (0, 14)), ((.mk (Option.some 29) (.bin .sub (.tmp 28) (.const (.int .i64 1))) (Option.some (21,
  Bool.true))), (0, 14)), ((.mk (Option.some 30) (.atSlice 2 (.tmp 27) (.tmp 29)) (Option.some (21, Bool.true))), (0, 14)), ((.mk (Option.some 31) (.load 2 Bool.true (.tmp 30))
  (Option.some (21, Bool.true))), (0, 14)), ((.mk (Option.some 32) (.callv (.tmp 22) [(.tmp 26), (.tmp 31)]) (Option.some (21, Bool.true))), (0, 17)), ((.mk (Option.some 33) (.bin
  .lss (.tmp 32) (.const (.int .i64 0))) (Option.some (21, Bool.true))), (15, 17)), ((.mk (Option.some 34) (.pick (.tmp 21) (.tmp 33) (.const (.bool Bool.false))) Option.none),
  (15, 17))]) (.cond (.tmp 34) .skip (.exit 2))) (.seq (.block 3 (.draws [((.mk (Option.some 37) (.mv (.tmp 0)) Option.none), (0, 15)), ((.mk (Option.some 38) (.mv (.tmp 9))
  Option.none), (0, 15)), ((.mk (Option.some 39) (.mv (.tmp 0)) Option.none), (0, 17)), ((.mk (Option.some 40) (.mv (.tmp 9)) Option.none), (0, 17)), ((.mk (Option.some 41) (.bin
  .sub (.tmp 40) (.const (.int .i64 1))) Option.none), (0, 17)), ((.mk (Option.some 42) (.mv (.tmp 0)) Option.none), (0, 15)), ((.mk (Option.some 43) (.mv (.tmp 9)) Option.none),
  (0, 15)), ((.mk (Option.some 44) (.bin .sub (.tmp 43) (.const (.int .i64 1))) Option.none), (0, 15)), ((.mk (Option.some 45) (.atSlice 2 (.tmp 42) (.tmp 44)) Option.none), (0,
  15)), ((.mk (Option.some 46) (.load 2 Bool.true (.tmp 45)) Option.none), (0, 15)), ((.mk (Option.some 47) (.mv (.tmp 0)) Option.none), (0, 15)), ((.mk (Option.some 48) (.mv (.tmp
  9)) Option.none), (0, 15)), ((.mk (Option.some 49) (.atSlice 2 (.tmp 47) (.tmp 48)) Option.none), (0, 15)), ((.mk (Option.some 50) (.load 2 Bool.true (.tmp 49)) Option.none), (0,
  15)), ((.mk (Option.some 51) (.atSlice 2 (.tmp 37) (.tmp 38)) Option.none), (0, 15)), ((.mk Option.none (.store 2 (.tmp 51) (.tmp 46)) Option.none), (0, 17)), ((.mk (Option.some
  52) (.atSlice 2 (.tmp 39) (.tmp 41)) Option.none), (16, 17)), ((.mk Option.none (.store 2 (.tmp 52) (.tmp 50)) Option.none), (16, 18))])) (.region [(.mk (Option.some 35) (.mv
  (.tmp 9)) Option.none), (.mk (Option.some 36) (.bin .sub (.tmp 35) (.const (.int .i64 1))) Option.none), (.mk (Option.some 9) (.mv (.tmp 36)) Option.none)]))))))) (.region [(.mk
  (Option.some 15) (.mv (.tmp 8)) Option.none), (.mk (Option.some 16) (.bin .add (.tmp 15) (.const (.int .i64 1))) Option.none), (.mk (Option.some 8) (.mv (.tmp 16))
  Option.none)])))))) 53 [])
def a321 : AFn :=
  (.mk (.seq (.region [(.mk (Option.some 2) (.mv (.const (.int .i64 0))) Option.none)]) (.seq (.seq (.region [(.mk (Option.some 3) (.mv (.tmp 0)) Option.none), (.mk (Option.some 4)
  (.bin .geq (.tmp 3) (.const (.int .u64 4294967296))) Option.none)]) (.cond (.tmp 4) (.seq (.region [(.mk (Option.some 5) (.mv (.tmp 0)) Option.none), (.mk (Option.some 6) (.bin
  .shr (.tmp 5) (.const (.int .u64 32))) Option.none), (.mk (Option.some 0) (.mv (.tmp 6)) Option.none)]) (.region [(.mk (Option.some 2) (.mv (.const (.int .i64 32)))
  Option.none)])) .skip)) (.seq (.seq (.region [(.mk (Option.some 7) (.mv (.tmp 0)) Option.none), (.mk (Option.some 8) (.bin .geq (.tmp 7) (.const (.int .u64 65536)))
  Option.none)]) (.cond (.tmp 8) (.seq (.region [(.mk (Option.some 9) (.mv (.tmp 0)) Option.none), (.mk (Option.some 10) (.bin .shr (.tmp 9) (.const (.int .u64 16))) Option.none),
  (.mk (Option.some 0) (.mv (.tmp 10)) Option.none)]) (.region [(.mk (Option.some 11) (.mv (.tmp 2)) Option.none), (.mk (Option.some 12) (.bin .add (.tmp 11) (.const (.int .i64
  16))) Option.none), (.mk (Option.some 2) (.mv (.tmp 12)) Option.none)])) .skip)) (.seq (.seq (.region [(.mk (Option.some 13) (.mv (.tmp 0)) Option.none), (.mk (Option.some 14)
  (.bin .geq (.tmp 13) (.const (.int .u64 256))) Option.none)]) (.cond (.tmp 14) (.seq (.region [(.mk (Option.some 15) (.mv (.tmp 0)) Option.none), (.mk (Option.some 16) (.bin .shr
  (.tmp 15) (.const (.int .u64 8))) Option.none), (.mk (Option.some 0) (.mv (.tmp 16)) Option.none)]) (.region [(.mk (Option.some 17) (.mv (.tmp 2)) Option.none), (.mk (Option.some
  18) (.bin .add (.tmp 17) (.const (.int .i64 8))) Option.none), (.mk (Option.some 2) (.mv (.tmp 18)) Option.none)])) .skip)) (.seq (.region [(.mk (Option.some 19) (.mv (.tmp 2))
  Option.none), (.mk (Option.some 20) (.mv (.tmp 0)) Option.none), (.mk (Option.some 21) (.conv .u8 (.tmp 20)) Option.none), (.mk (Option.some 22) (.byteAt (.const (.string
  (ByteArray.mk #[0, 1, 2, 2, 3, 3, 3, 3, 4, 4, 4, 4, 4, 4, 4, 4, 5, 5, 5, 5, 5, 5, 5, 5, 5, 5, 5, 5, 5, 5, 5, 5, 6, 6, 6, 6, 6, 6, 6, 6, 6, 6, 6, 6, 6, 6, 6, 6, 6, 6, 6, 6, 6, 6,
  6, 6, 6, 6, 6, 6, 6, 6, 6, 6, 7, 7, 7, 7, 7, 7, 7, 7, 7, 7, 7, 7, 7, 7, 7, 7, 7, 7, 7, 7, 7, 7, 7, 7, 7, 7, 7, 7, 7, 7, 7, 7, 7, 7, 7, 7, 7, 7, 7, 7, 7, 7, 7, 7, 7, 7, 7, 7, 7,
  7, 7, 7, 7, 7, 7, 7, 7, 7, 7, 7, 7, 7, 7, 7, 8, 8, 8, 8, 8, 8, 8, 8, 8, 8, 8, 8, 8, 8, 8, 8, 8, 8, 8, 8, 8, 8, 8, 8, 8, 8, 8, 8, 8, 8, 8, 8, 8, 8, 8, 8, 8, 8, 8, 8, 8, 8, 8, 8,
  8, 8, 8, 8, 8, 8, 8, 8, 8, 8, 8, 8, 8, 8, 8, 8, 8, 8, 8, 8, 8, 8, 8, 8, 8, 8, 8, 8, 8, 8, 8, 8, 8, 8, 8, 8, 8, 8, 8, 8, 8, 8, 8, 8, 8, 8, 8, 8, 8, 8, 8, 8, 8, 8, 8, 8, 8, 8, 8,
  8, 8, 8, 8, 8, 8, 8, 8, 8, 8, 8, 8, 8, 8, 8, 8, 8, 8, 8, 8, 8, 8, 8, 8, 8]))) (.tmp 21)) Option.none), (.mk (Option.some 23) (.conv .i64 (.tmp 22)) Option.none), (.mk
  (Option.some 24) (.bin .add (.tmp 19) (.tmp 23)) Option.none), (.mk (Option.some 2) (.mv (.tmp 24)) Option.none)]) .ret))))) 25 [(.tmp 2)])
def a342 : AFn :=
  (.mk (.seq (.region [(.mk (Option.some 4) (.mv (.const (.int .i64 0))) Option.none)]) (.seq (.seq (.region [(.mk (Option.some 6) (.mv (.tmp 0)) Option.none), (.mk (Option.some 7)
  (.len (.tmp 6)) Option.none), (.mk (Option.some 8) (.mv (.const (.int .i64 0))) Option.none)]) (.block 0 (.loop (.seq (.region [(.mk (Option.some 9) (.bin .lss (.tmp 8) (.tmp 7))
  Option.none)]) (.seq (.cond (.tmp 9) .skip (.exit 0)) (.seq (.block 1 (.seq (.region [(.mk (Option.some 10) (.mv (.tmp 8)) Option.none), (.mk (Option.some 5) (.mv (.tmp 10))
  Option.none)]) (.seq (.region [(.mk (Option.some 11) (.mv (.tmp 1)) Option.none), (.mk (Option.some 12) (.mv (.tmp 0)) Option.none), (.mk (Option.some 13) (.mv (.tmp 5))
  Option.none), (.mk (Option.some 14) (.atSlice 3 (.tmp 12) (.tmp 13)) Option.none), (.mk (Option.some 15) (.load 3 Bool.true (.tmp 14)) Option.none), (.mk (Option.some 16) (.callv
  (.tmp 11) [(.tmp 15)]) Option.none)]) (.cond (.tmp 16) (.seq (.region [(.mk (Option.some 17) (.mv (.tmp 5)) Option.none), (.mk (Option.some 4) (.mv (.tmp 17)) Option.none)])
  .ret) .skip)))) (.region [(.mk (Option.some 18) (.bin .add (.tmp 8) (.const (.int .i64 1))) Option.none), (.mk (Option.some 8) (.mv (.tmp 18)) Option.none)]))))))) (.seq (.region
  [(.mk (Option.some 4) (.mv (.const (.int .i64 (-1)))) Option.none)]) .ret))) 19 [(.tmp 4)])
def a346 : AFn :=
  (.mk (.seq (.region [(.mk (Option.some 2) (.box (.tmp 0)) Option.none), (.mk (Option.some 4) (.mv (.const (.slice Option.none 0 0))) Option.none)]) (.seq (.seq (.region [(.mk
  (Option.some 6) (.mv (.tmp 1)) Option.none)]) (.block 0 (.rangeF (.tmp 6) [7] 13 (.region [(.mk (Option.some 5) (.mv (.tmp 7)) Option.none)]) (.block 1 (.region [(.mk
  (Option.some 8) (.load 1 Bool.false (.tmp 2)) Option.none), (.mk (Option.some 9) (.mv (.tmp 5)) Option.none), (.mk (Option.some 10) (.buildSlice 1 1 [(.str [])] [(0, (1, (.tmp
  9)))]) Option.none), (.mk (Option.some 11) (.append Bool.false 1 16 (.tmp 8) (.tmp 10)) Option.none), (.mk Option.none (.store 1 (.tmp 2) (.tmp 11)) Option.none)]))))) (.seq
  (.region [(.mk (Option.some 12) (.load 1 Bool.false (.tmp 2)) Option.none), (.mk (Option.some 4) (.mv (.tmp 12)) Option.none)]) .ret))) 13 [(.tmp 4)])
def a347 : AFn :=
  (.mk (.seq (.region [(.mk (Option.some 8) (.mv (.const (.bool Bool.true))) Option.none)]) (.seq (.region [(.mk (Option.some 9) (.mv (.const (.bool Bool.true))) Option.none)])
  (.block 0 (.loop (.block 1 (.seq (.region [(.mk (Option.some 19) (.mv (.tmp 2)) Option.none), (.mk (Option.some 20) (.mv (.tmp 1)) Option.none), (.mk (Option.some 21) (.bin .sub
  (.tmp 19) (.tmp 20)) Option.none), (.mk (Option.some 10) (.mv (.tmp 21)) Option.none)]) (.seq (.seq (.region [(.mk (Option.some 22) (.mv (.tmp 10)) Option.none), (.mk
  (Option.some 23) (.bin .leq (.tmp 22) (.const (.int .i64 12))) Option.none)]) (.cond (.tmp 23) (.seq (.region [(.mk (Option.some 24) (.mv (.tmp 0)) Option.none), (.mk
  (Option.some 25) (.mv (.tmp 1)) Option.none), (.mk (Option.some 26) (.mv (.tmp 2)) Option.none), (.mk (Option.some 27) (.call 387 [(.tmp 24), (.tmp 25), (.tmp 26)])
  Option.none)]) .ret) .skip)) (.seq (.seq (.region [(.mk (Option.some 28) (.mv (.tmp 3)) Option.none), (.mk (Option.some 29) (.bin .eql (.tmp 28) (.const (.int .i64 0)))
  Option.none)]) (.cond (.tmp 29) (.seq (.region [(.mk (Option.some 30) (.mv (.tmp 0)) Option.none), (.mk (Option.some 31) (.mv (.tmp 1)) Option.none), (.mk (Option.some 32) (.mv
  (.tmp 2)) Option.none), (.mk (Option.some 33) (.call 388 [(.tmp 30), (.tmp 31), (.tmp 32)]) Option.none)]) .ret) .skip)) (.seq (.seq (.region [(.mk (Option.some 34) (.mv (.tmp
  8)) Option.none), (.mk (Option.some 35) (.un .not (.tmp 34)) Option.none)]) (.cond (.tmp 35) (.seq (.region [(.mk (Option.some 36) (.mv (.tmp 0)) Option.none), (.mk (Option.some
  37) (.mv (.tmp 1)) Option.none), (.mk (Option.some 38) (.mv (.tmp 2)) Option.none), (.mk (Option.some 39) (.call 389 [(.tmp 36), (.tmp 37), (.tmp 38)]) Option.none)]) (.region
  [(.mk (Option.some 40) (.mv (.tmp 3)) Option.none), (.mk (Option.some 41) (.bin .sub (.tmp 40) (.const (.int .i64 1))) Option.none), (.mk (Option.some 3) (.mv (.tmp 41))
  Option.none)])) .skip)) (.seq (.region [(.mk (Option.some 43) (.mv (.tmp 0)) Option.none), (.mk (Option.some 44) (.mv (.tmp 1)) Option.none), (.mk (Option.some 45) (.mv (.tmp 2))
  Option.none), (.mk (Option.some 46) (.call 390 [(.tmp 43), (.tmp 44), (.tmp 45)]) Option.none), (.mk (Option.some 42) (.mv (.tmp 46)) Option.none), (.mk (Option.some 47)
  (.extract (.tmp 42) 0) Option.none), (.mk (Option.some 48) (.extract (.tmp 42) 1) Option.none), (.mk (Option.some 11) (.mv (.tmp 47)) Option.none), (.mk (Option.some 12) (.mv
  (.tmp 48)) Option.none)]) (.seq (.seq (.region [(.mk (Option.some 49) (.mv (.tmp 12)) Option.none), (.mk (Option.some 50) (.bin .eql (.tmp 49) (.const (.int .i64 2)))
  Option.none)]) (.cond (.tmp 50) (.seq (.region [(.mk (Option.some 51) (.mv (.tmp 0)) Option.none), (.mk (Option.some 52) (.mv (.tmp 1)) Option.none), (.mk (Option.some 53) (.mv
  (.tmp 2)) Option.none), (.mk (Option.some 54) (.call 391 [(.tmp 51), (.tmp 52), (.tmp 53)]) Option.none)]) (.seq (.region [(.mk (Option.some 55) (.mv (.tmp 2)) Option.none), (.mk
  (Option.some 56) (.bin .sub (.tmp 55) (.const (.int .i64 1))) Option.none), (.mk (Option.some 57) (.mv (.tmp 11)) Option.none), (.mk (Option.some 58) (.mv (.tmp 1)) Option.none),
  (.mk (Option.some 59) (.bin .sub (.tmp 57) (.tmp 58)) Option.none), (.mk (Option.some 60) (.bin .sub (.tmp 56) (.tmp 59)) Option.none), (.mk (Option.some 11) (.mv (.tmp 60))
  Option.none)]) (.region [(.mk (Option.some 12) (.mv (.const (.int .i64 1))) Option.none)]))) .skip)) (.seq (.seq (.region [(.mk (Option.some 61) (.mv (.tmp 8)) Option.none), (.mk
  (Option.some 62) (.mv (.tmp 61)) Option.none), (.mk (Option.some 63) (.mv (.tmp 9)) (Option.some (62, Bool.true))), (.mk (Option.some 64) (.pick (.tmp 62) (.tmp 63) (.const
  (.bool Bool.false))) Option.none), (.mk (Option.some 65) (.mv (.tmp 64)) Option.none), (.mk (Option.some 66) (.mv (.tmp 12)) (Option.some (65, Bool.true))), (.mk (Option.some 67)
  (.bin .eql (.tmp 66) (.const (.int .i64 1))) (Option.some (65, Bool.true))), (.mk (Option.some 68) (.pick (.tmp 65) (.tmp 67) (.const (.bool Bool.false))) Option.none)]) (.cond
  (.tmp 68) (.seq (.region [(.mk (Option.some 69) (.mv (.tmp 0)) Option.none), (.mk (Option.some 70) (.mv (.tmp 1)) Option.none), (.mk (Option.some 71) (.mv (.tmp 2)) Option.none),
  (.mk (Option.some 72) (.call 392 [(.tmp 69), (.tmp 70), (.tmp 71)]) Option.none)]) (.cond (.tmp 72) .ret .skip)) .skip)) (.seq (.seq (.draws [((.mk (Option.some 73) (.mv (.tmp
  1)) Option.none), (0, 12)), ((.mk (Option.some 74) (.bin .gtr (.tmp 73) (.const (.int .i64 0))) Option.none), (0, 12)), ((.mk (Option.some 75) (.mv (.tmp 74)) Option.none), (0,
  12)), ((.mk (Option.some 76) (.mv (.tmp 0)) (Option.some (75, Bool.true))), (0, 12)), ((.mk (Option.some 77) (.mv (.tmp 1)) (Option.some (75, Bool.true))), (0, 12)), ((.mk
  (Option.some 78) (.bin .sub (.tmp 77) (.const (.int .i64 1))) (Option.some (75, Bool.true))), (0, 12)), ((.mk (Option.some 79) (.atSlice 1 (.tmp 76) (.tmp 78)) (Option.some (75,
  Bool.true))), (0, 12)), ((.mk (Option.some 80) (.load 1 Bool.false (.tmp 79)) (Option.some (75, Bool.true))), (0, 12)), ((.mk (Option.some 81) (.mv (.tmp 0)) (Option.some (75,
  Bool.true))), (0, 12)), ((.mk (Option.some 82) (.mv (.tmp 11)) (Option.some (75, Bool.true))), (0, 12)), ((.mk (Option.some 83) (.atSlice 1 (.tmp 81) (.tmp 82)) (Option.some (75,
  Bool.true))), (0, 12)), ((.mk (Option.some 84) (.load 1 Bool.false (.tmp 83)) (Option.some (75, Bool.true))), (0, 12)), ((.mk (Option.some 85) (.call 393 [(.tmp 80), (.tmp 84)])
  (Option.some (75, Bool.true))), (0, 15)), ((.mk (Option.some 86) (.un .not (.tmp 85)) (Option.some (75, Bool.true))), (13, 15)), ((.mk (Option.some 87) (.pick (.tmp 75) (.tmp 86)
  (.const (.bool Bool.false))) Option.none), (13, 15))]) (.cond (.tmp 87) (.seq (.region [(.mk (Option.some 88) (.mv (.tmp 0)) Option.none), (.mk (Option.some 89) (.mv (.tmp 1))
  Option.none), (.mk (Option.some 90) (.mv (.tmp 2)) Option.none), (.mk (Option.some 91) (.mv (.tmp 11)) Option.none), (.mk (Option.some 92) (.call 394 [(.tmp 88), (.tmp 89), (.tmp
  90), (.tmp 91)]) Option.none), (.mk (Option.some 13) (.mv (.tmp 92)) Option.none)]) (.seq (.region [(.mk (Option.some 93) (.mv (.tmp 13)) Option.none), (.mk (Option.some 1) (.mv
  (.tmp 93)) Option.none)]) (.exit 1))) .skip)) (.seq (.region [(.mk (Option.some 95) (.mv (.tmp 0)) Option.none), (.mk (Option.some 96) (.mv (.tmp 1)) Option.none), (.mk
  (Option.some 97) (.mv (.tmp 2)) Option.none), (.mk (Option.some 98) (.mv (.tmp 11)) Option.none), (.mk (Option.some 99) (.call 395 [(.tmp 95), (.tmp 96), (.tmp 97), (.tmp 98)])
  Option.none), (.mk (Option.some 94) (.mv (.tmp 99)) Option.none), (.mk (Option.some 100) (.extract (.tmp 94) 0) Option.none), (.mk (Option.some 101) (.extract (.tmp 94) 1)
  Option.none), (.mk (Option.some 14) (.mv (.tmp 100)) Option.none), (.mk (Option.some 15) (.mv (.tmp 101)) Option.none)]) (.seq (.region [(.mk (Option.some 102) (.mv (.tmp 15))
  Option.none), (.mk (Option.some 9) (.mv (.tmp 102)) Option.none)]) (.seq (.region [(.mk (Option.some 103) (.mv (.tmp 14)) Option.none), (.mk (Option.some 104) (.mv (.tmp 1))
  Option.none), (.mk (Option.some 105) (.bin .sub (.tmp 103) (.tmp 104)) Option.none), (.mk (Option.some 106) (.mv (.tmp 2)) Option.none), (.mk (Option.some 107) (.mv (.tmp 14))
  Option.none), (.mk (Option.some 108) (.bin .sub (.tmp 106) (.tmp 107)) Option.none), (.mk (Option.some 16) (.mv (.tmp 105)) Option.none), (.mk (Option.some 17) (.mv (.tmp 108))
  Option.none)]) (.seq (.region [(.mk (Option.some 109) (.mv (.tmp 10)) Option.none), (.mk (Option.some 110) (.bin .quo (.tmp 109) (.const (.int .i64 8))) Option.none), (.mk
  (Option.some 18) (.mv (.tmp 110)) Option.none)]) (.seq (.region [(.mk (Option.some 111) (.mv (.tmp 16)) Option.none), (.mk (Option.some 112) (.mv (.tmp 17)) Option.none), (.mk
  (Option.some 113) (.bin .lss (.tmp 111) (.tmp 112)) Option.none)]) (.cond (.tmp 113) (.seq (.region [(.mk (Option.some 114) (.mv (.tmp 16)) Option.none), (.mk (Option.some 115)
  (.mv (.tmp 18)) Option.none), (.mk (Option.some 116) (.bin .geq (.tmp 114) (.tmp 115)) Option.none), (.mk (Option.some 8) (.mv (.tmp 116)) Option.none)]) (.seq (.region [(.mk
  (Option.some 117) (.mv (.tmp 0)) Option.none), (.mk (Option.some 118) (.mv (.tmp 1)) Option.none), (.mk (Option.some 119) (.mv (.tmp 14)) Option.none), (.mk (Option.some 120)
  (.mv (.tmp 3)) Option.none), (.mk (Option.some 121) (.call 347 [(.tmp 117), (.tmp 118), (.tmp 119), (.tmp 120)]) Option.none)]) (.region [(.mk (Option.some 122) (.mv (.tmp 14))
  Option.none), (.mk (Option.some 123) (.bin .add (.tmp 122) (.const (.int .i64 1))) Option.none), (.mk (Option.some 1) (.mv (.tmp 123)) Option.none)]))) (.seq (.region [(.mk
  (Option.some 124) (.mv (.tmp 17)) Option.none), (.mk (Option.some 125) (.mv (.tmp 18)) Option.none), (.mk (Option.some 126) (.bin .geq (.tmp 124) (.tmp 125)) Option.none), (.mk
  (Option.some 8) (.mv (.tmp 126)) Option.none)]) (.seq (.region [(.mk (Option.some 127) (.mv (.tmp 0)) Option.none), (.mk (Option.some 128) (.mv (.tmp 14)) Option.none), (.mk
  (Option.some 129) (.bin .add (.tmp 128) (.const (.int .i64 1))) Option.none), (.mk (Option.some 130) (.mv (.tmp 2)) Option.none), (.mk (Option.some 131) (.mv (.tmp 3))
  Option.none), (.mk (Option.some 132) (.call 347 [(.tmp 127), (.tmp 129), (.tmp 130), (.tmp 131)]) Option.none)]) (.region [(.mk (Option.some 133) (.mv (.tmp 14)) Option.none),
  (.mk (Option.some 2) (.mv (.tmp 133)) Option.none)])))))))))))))))))))))) 134 [])
def a348 : AFn :=
  (.mk (.seq (.region [(.mk (Option.some 2) (.mv (.const .nilIface)) Option.none)]) (.seq (.seq (.region [(.mk (Option.some 3) (.mv (.tmp 0)) Option.none), (.mk (Option.some 4) (.bin
  .lss (.tmp 3) (.const (.int .i64 0))) Option.none), (.mk (Option.some 5) (.mv (.tmp 4)) Option.none), (.mk (Option.some 6) (.mv (.tmp 0)) (Option.some (5, Bool.false))), (.mk
  (Option.some 7) (.bin .gtr (.tmp 6) (.const (.int .i64 1048576))) (Option.some (5, Bool.false))), (.mk (Option.some 8) (.pick (.tmp 5) (.const (.bool Bool.true)) (.tmp 7))
  Option.none)]) (.cond (.tmp 8) (.seq (.region [(.mk (Option.some 9) (.mv (.tmp 0)) Option.none), (.mk (Option.some 10) (.call 90 [(.const (.int .i64 2))]) Option.none), (.mk
  (Option.some 11) (.call 150 [(.const (.int .i64 1048576)), (.tmp 9), (.tmp 10)]) Option.none), (.mk (Option.some 2) (.mv (.tmp 11)) Option.none)]) .ret) .skip)) (.seq (.region
  [(.mk (Option.some 2) (.mv (.const .nilIface)) Option.none)]) .ret))) 12 [(.tmp 2)])
def a349 : AFn :=
  (.mk (.seq (.region [(.mk (Option.some 2) (.mv (.const (.int .i64 0))) Option.none)]) (.seq (.seq (.region [(.mk (Option.some 3) (.mv (.tmp 0)) Option.none), (.mk (Option.some 4)
  (.eq .ptr Bool.false (.tmp 3) (.const (.pointer Option.none))) Option.none)]) (.cond (.tmp 4) (.seq (.region [(.mk (Option.some 2) (.mv (.const (.int .i64 0))) Option.none)])
  .ret) .skip)) (.seq (.draws [((.mk (Option.some 5) (.mv (.tmp 0)) Option.none), (0, 9)), ((.mk (Option.some 6) (.nilCheck (.tmp 5)) Option.none), (0, 9)), ((.mk (Option.some 7)
  (.fieldAddr 0 (.tmp 6)) Option.none), (0, 9)), ((.mk (Option.some 8) (.load 1 Bool.false (.tmp 7)) Option.none), (0, 9)), ((.mk (Option.some 9) (.mv (.tmp 0)) Option.none), (0,
  5)), ((.mk (Option.some 10) (.call 145 [(.tmp 9)]) Option.none), (0, 9)), ((.mk (Option.some 11) (.bin .sub (.tmp 8) (.tmp 10)) Option.none), (6, 9)), ((.mk (Option.some 12)
  (.minmax Bool.true [(.tmp 11), (.const (.int .i64 0))]) Option.none), (6, 9)), ((.mk (Option.some 2) (.mv (.tmp 12)) Option.none), (6, 9))]) .ret))) 13 [(.tmp 2)])
def a355 : AFn :=
  (.mk (.seq (.region [(.mk (Option.some 8) (.mv (.tmp 1)) Option.none), (.mk (Option.some 9) (.bin .add (.tmp 8) (.const (.int .i64 1))) Option.none), (.mk (Option.some 6) (.mv
  (.tmp 9)) Option.none)]) (.block 0 (.loop (.seq (.seq (.region [(.mk (Option.some 10) (.mv (.tmp 6)) Option.none), (.mk (Option.some 11) (.mv (.tmp 2)) Option.none), (.mk
  (Option.some 12) (.bin .lss (.tmp 10) (.tmp 11)) Option.none)]) (.cond (.tmp 12) .skip (.exit 0))) (.seq (.block 1 (.seq (.region [(.mk (Option.some 15) (.mv (.tmp 6))
  Option.none), (.mk (Option.some 7) (.mv (.tmp 15)) Option.none)]) (.block 2 (.loop (.seq (.seq (.draws [((.mk (Option.some 16) (.mv (.tmp 7)) Option.none), (0, 13)), ((.mk
  (Option.some 17) (.mv (.tmp 1)) Option.none), (0, 13)), ((.mk (Option.some 18) (.bin .gtr (.tmp 16) (.tmp 17)) Option.none), (0, 13)), ((.mk (Option.some 19) (.mv (.tmp 18))
  Option.none), (0, 13)), ((.mk (Option.some 20) (.mv (.tmp 0)) (Option.some (19, Bool.true))), (0, 13)), ((.mk (Option.some 21) (.mv (.tmp 7)) (Option.some (19, Bool.true))), (0,
  13)), ((.mk (Option.some 22) (.atSlice 1 (.tmp 20) (.tmp 21)) (Option.some (19, Bool.true))), (0, 13)), ((.mk (Option.some 23) (.load 1 Bool.false (.tmp 22)) (Option.some (19,
  Bool.true))), (0, 13)), ((.mk (Option.some 24) (.mv (.tmp 0)) (Option.some (19, Bool.true))), (0, 13)), ((.mk (Option.some 25) (.mv (.tmp 7)) (Option.some (19, Bool.true))), (0,
  13)), ((.mk (Option.some 26) (.bin .sub (.tmp 25) (.const (.int .i64 1))) (Option.some (19, Bool.true))), (0, 13)), ((.mk (Option.some 27) (.atSlice 1 (.tmp 24) (.tmp 26))
  (Option.some (19, Bool.true))), (0, 13)), ((.mk (Option.some 28) (.load 1 Bool.false (.tmp 27)) (Option.some (19, Bool.true))), (0, 13)), ((.mk (Option.some 29) (.call 361 [(.tmp
  23), (.tmp 28)]) (Option.some (19, Bool.true))), (0, 15)), ((.mk (Option.some 30) (.pick (.tmp 19) (.tmp 29) (.const (.bool Bool.false))) Option.none), (14, 15))]) (.cond (.tmp
  30) .skip (.exit 2))) (.seq (.block 3 (.draws [((.mk (Option.some 33) (.mv (.tmp 0)) Option.none), (0, 15)), ((.mk (Option.some 34) (.mv (.tmp 7)) Option.none), (0, 15)), ((.mk
  (Option.some 35) (.mv (.tmp 0)) Option.none), (0, 17)), ((.mk (Option.some 36) (.mv (.tmp 7)) Option.none), (0, 17)), ((.mk (Option.some 37) (.bin .sub (.tmp 36) (.const (.int
  .i64 1))) Option.none), (0, 17)), ((.mk (Option.some 38) (.mv (.tmp 0)) Option.none), (0, 15)), ((.mk (Option.some 39) (.mv (.tmp 7)) Option.none), (0, 15)), ((.mk (Option.some
  40) (.bin .sub (.tmp 39) (.const (.int .i64 1))) Option.none), (0, 15)), ((.mk (Option.some 41) (.atSlice 1 (.tmp 38) (.tmp 40)) Option.none), (0, 15)), ((.mk (Option.some 42)
  (.load 1 Bool.false (.tmp 41)) Option.none), (0, 15)), ((.mk (Option.some 43) (.mv (.tmp 0)) Option.none), (0, 15)), ((.mk (Option.some 44) (.mv (.tmp 7)) Option.none), (0, 15)),
  ((.mk (Option.some 45) (.atSlice 1 (.tmp 43) (.tmp 44)) Option.none), (0, 15)), ((.mk (Option.some 46) (.load 1 Bool.false (.tmp 45)) Option.none), (0, 15)), ((.mk (Option.some
  47) (.atSlice 1 (.tmp 33) (.tmp 34)) Option.none), (0, 15)), ((.mk Option.none (.store 1 (.tmp 47) (.tmp 42)) Option.none), (0, 17)), ((.mk (Option.some 48) (.atSlice 1 (.tmp 35)
  (.tmp 37)) Option.none), (16, 17)), ((.mk Option.none (.store 1 (.tmp 48) (.tmp 46)) Option.none), (16, 18))])) (.region [(.mk (Option.some 31) (.mv (.tmp 7)) Option.none), (.mk
  (Option.some 32) (.bin .sub (.tmp 31) (.const (.int .i64 1))) Option.none), (.mk (Option.some 7) (.mv (.tmp 32)) Option.none)]))))))) (.region [(.mk (Option.some 13) (.mv (.tmp
  6)) Option.none), (.mk (Option.some 14) (.bin .add (.tmp 13) (.const (.int .i64 1))) Option.none), (.mk (Option.some 6) (.mv (.tmp 14)) Option.none)])))))) 49 [])
def a372 : AFn :=
  (.mk (.seq (.region [(.mk (Option.some 6) (.mv (.const (.int .i64 0))) Option.none), (.mk (Option.some 7) (.mv (.const (.bool Bool.false))) Option.none)]) (.seq (.region [(.mk
  (Option.some 12) (.mv (.tmp 0)) Option.none), (.mk (Option.some 13) (.len (.tmp 12)) Option.none), (.mk (Option.some 8) (.mv (.tmp 13)) Option.none)]) (.seq (.region [(.mk
  (Option.some 14) (.mv (.tmp 8)) Option.none), (.mk (Option.some 9) (.mv (.const (.int .i64 0))) Option.none), (.mk (Option.some 10) (.mv (.tmp 14)) Option.none)]) (.seq (.block 0
  (.loop (.seq (.seq (.region [(.mk (Option.some 15) (.mv (.tmp 9)) Option.none), (.mk (Option.some 16) (.mv (.tmp 10)) Option.none), (.mk (Option.some 17) (.bin .lss (.tmp 15)
  (.tmp 16)) Option.none)]) (.cond (.tmp 17) .skip (.exit 0))) (.block 1 (.seq (.region [(.mk (Option.some 18) (.mv (.tmp 9)) Option.none), (.mk (Option.some 19) (.mv (.tmp 10))
  Option.none), (.mk (Option.some 20) (.bin .add (.tmp 18) (.tmp 19)) Option.none), (.mk (Option.some 21) (.conv .u64 (.tmp 20)) Option.none), (.mk (Option.some 22) (.bin .shr
  (.tmp 21) (.const (.int .u64 1))) Option.none), (.mk (Option.some 23) (.conv .i64 (.tmp 22)) Option.none), (.mk (Option.some 11) (.mv (.tmp 23)) Option.none)]) (.seq (.region
  [(.mk (Option.some 24) (.mv (.tmp 2)) Option.none), (.mk (Option.some 25) (.mv (.tmp 0)) Option.none), (.mk (Option.some 26) (.mv (.tmp 11)) Option.none), (.mk (Option.some 27)
  (.atSlice 2 (.tmp 25) (.tmp 26)) Option.none), (.mk (Option.some 28) (.load 2 Bool.true (.tmp 27)) Option.none), (.mk (Option.some 29) (.mv (.tmp 1)) Option.none), (.mk
  (Option.some 30) (.callv (.tmp 24) [(.tmp 28), (.tmp 29)]) Option.none), (.mk (Option.some 31) (.bin .lss (.tmp 30) (.const (.int .i64 0))) Option.none)]) (.cond (.tmp 31)
  (.region [(.mk (Option.some 32) (.mv (.tmp 11)) Option.none), (.mk (Option.some 33) (.bin .add (.tmp 32) (.const (.int .i64 1))) Option.none), (.mk (Option.some 9) (.mv (.tmp
  33)) Option.none)]) (.region [(.mk (Option.some 34) (.mv (.tmp 11)) Option.none), (.mk (Option.some 10) (.mv (.tmp 34)) Option.none)])))))))) (.seq (.region [(.mk (Option.some
  35) (.mv (.tmp 9)) Option.none), (.mk (Option.some 36) (.mv (.tmp 9)) Option.none), (.mk (Option.some 37) (.mv (.tmp 8)) Option.none), (.mk (Option.some 38) (.bin .lss (.tmp 36)
  (.tmp 37)) Option.none), (.mk (Option.some 39) (.mv (.tmp 38)) Option.none), (.mk (Option.some 40) (.mv (.tmp 2)) (Option.some (39, Bool.true))), (.mk (Option.some 41) (.mv (.tmp
  0)) (Option.some (39, Bool.true))), (.mk (Option.some 42) (.mv (.tmp 9)) (Option.some (39, Bool.true))), (.mk (Option.some 43) (.atSlice 2 (.tmp 41) (.tmp 42)) (Option.some (39,
  Bool.true))), (.mk (Option.some 44) (.load 2 Bool.true (.tmp 43)) (Option.some (39, Bool.true))), (.mk (Option.some 45) (.mv (.tmp 1)) (Option.some (39, Bool.true))), (.mk
  (Option.some 46) (.callv (.tmp 40) [(.tmp 44), (.tmp 45)]) (Option.some (39, Bool.true))), (.mk (Option.some 47) (.bin .eql (.tmp 46) (.const (.int .i64 0))) (Option.some (39,
  Bool.true))), (.mk (Option.some 48) (.pick (.tmp 39) (.tmp 47) (.const (.bool Bool.false))) Option.none), (.mk (Option.some 6) (.mv (.tmp 35)) Option.none), (.mk (Option.some 7)
  (.mv (.tmp 48)) Option.none)]) .ret))))) 49 [(.tmp 6), (.tmp 7)])
def a377 : AFn :=
  (.mk (.seq (.region [(.mk (Option.some 10) (.mv (.tmp 1)) Option.none), (.mk (Option.some 11) (.bin .add (.tmp 10) (.const (.int .i64 1))) Option.none), (.mk (Option.some 8) (.mv
  (.tmp 11)) Option.none)]) (.block 0 (.loop (.seq (.seq (.region [(.mk (Option.some 12) (.mv (.tmp 8)) Option.none), (.mk (Option.some 13) (.mv (.tmp 2)) Option.none), (.mk
  (Option.some 14) (.bin .lss (.tmp 12) (.tmp 13)) Option.none)]) (.cond (.tmp 14) .skip (.exit 0))) (.seq (.block 1 (.seq (.region [(.mk (Option.some 17) (.mv (.tmp 8))
  Option.none), (.mk (Option.some 9) (.mv (.tmp 17)) Option.none)]) (.block 2 (.loop (.seq (.seq (.draws [((.mk (Option.some 18) (.mv (.tmp 9)) Option.none), (0, 14)), ((.mk
  (Option.some 19) (.mv (.tmp 1)) Option.none), (0, 14)), ((.mk (Option.some 20) (.bin .gtr (.tmp 18) (.tmp 19)) Option.none), (0, 14)), ((.mk (Option.some 21) (.mv (.tmp 20))
  Option.none), (0, 14)), ((.mk (Option.some 22) (.mv (.tmp 3)) (Option.some (21, Bool.true))), (0, 14)), ((.mk (Option.some 23) (.mv (.tmp 0)) (Option.some (21, Bool.true))), (0,
  14)), ((.mk (Option.some 24) (.mv (.tmp 9)) (Option.some (21, Bool.true))), (0, 14)), ((.mk (Option.some 25) (.atSlice 2 (.tmp 23) (.tmp 24)) (Option.some (21, Bool.true))), (0,
  14)), ((.mk (Option.some 26) (.load 2 Bool.true (.tmp 25)) (Option.some (21, Bool.true))), (0, 14)), ((.mk (Option.some 27) (.mv (.tmp 0)) (Option.some (21, Bool.true))), (0,
  14)), ((.mk (Option.some 28) (.mv (.tmp 9)) (Option.some (21, Bool.true))), (0, 14)), ((.mk (Option.some 29) (.bin .sub (.tmp 28) (.const (.int .i64 1))) (Option.some (21,
  Bool.true))), (0, 14)), ((.mk (Option.some 30) (.atSlice 2 (.tmp 27) (.tmp 29)) (Option.some (21, Bool.true))), (0, 14)), ((.mk (Option.some 31) (.load 2 Bool.true (.tmp 30))
  (Option.some (21, Bool.true))), (0, 14)), ((.mk (Option.some 32) (.callv (.tmp 22) [(.tmp 26), (.tmp 31)]) (Option.some (21, Bool.true))), (0, 17)), ((.mk (Option.some 33) (.bin
  .lss (.tmp 32) (.const (.int .i64 0))) (Option.some (21, Bool.true))), (15, 17)), ((.mk (Option.some 34) (.pick (.tmp 21) (.tmp 33) (.const (.bool Bool.false))) Option.none),
  (15, 17))]) (.cond (.tmp 34) .skip (.exit 2))) (.seq (.block 3 (.draws [((.mk (Option.some 37) (.mv (.tmp 0)) Option.none), (0, 15)), ((.mk (Option.some 38) (.mv (.tmp 9))
  Option.none), (0, 15)), ((.mk (Option.some 39) (.mv (.tmp 0)) Option.none), (0, 17)), ((.mk (Option.some 40) (.mv (.tmp 9)) Option.none), (0, 17)), ((.mk (Option.some 41) (.bin
  .sub (.tmp 40) (.const (.int .i64 1))) Option.none), (0, 17)), ((.mk (Option.some 42) (.mv (.tmp 0)) Option.none), (0, 15)), ((.mk (Option.some 43) (.mv (.tmp 9)) Option.none),
  (0, 15)), ((.mk (Option.some 44) (.bin .sub (.tmp 43) (.const (.int .i64 1))) Option.none), (0, 15)), ((.mk (Option.some 45) (.atSlice 2 (.tmp 42) (.tmp 44)) Option.none), (0,
  15)), ((.mk (Option.some 46) (.load 2 Bool.true (.tmp 45)) Option.none), (0, 15)), ((.mk (Option.some 47) (.mv (.tmp 0)) Option.none), (0, 15)), ((.mk (Option.some 48) (.mv (.tmp
  9)) Option.none), (0, 15)), ((.mk (Option.some 49) (.atSlice 2 (.tmp 47) (.tmp 48)) Option.none), (0, 15)), ((.mk (Option.some 50) (.load 2 Bool.true (.tmp 49)) Option.none), (0,
  15)), ((.mk (Option.some 51) (.atSlice 2 (.tmp 37) (.tmp 38)) Option.none), (0, 15)), ((.mk Option.none (.store 2 (.tmp 51) (.tmp 46)) Option.none), (0, 17)), ((.mk (Option.some
  52) (.atSlice 2 (.tmp 39) (.tmp 41)) Option.none), (16, 17)), ((.mk Option.none (.store 2 (.tmp 52) (.tmp 50)) Option.none), (16, 18))])) (.region [(.mk (Option.some 35) (.mv
  (.tmp 9)) Option.none), (.mk (Option.some 36) (.bin .sub (.tmp 35) (.const (.int .i64 1))) Option.none), (.mk (Option.some 9) (.mv (.tmp 36)) Option.none)]))))))) (.region [(.mk
  (Option.some 15) (.mv (.tmp 8)) Option.none), (.mk (Option.some 16) (.bin .add (.tmp 15) (.const (.int .i64 1))) Option.none), (.mk (Option.some 8) (.mv (.tmp 16))
  Option.none)])))))) 53 [])
def a387 : AFn :=
  (.mk (.seq (.region [(.mk (Option.some 8) (.mv (.tmp 1)) Option.none), (.mk (Option.some 9) (.bin .add (.tmp 8) (.const (.int .i64 1))) Option.none), (.mk (Option.some 6) (.mv
  (.tmp 9)) Option.none)]) (.block 0 (.loop (.seq (.seq (.region [(.mk (Option.some 10) (.mv (.tmp 6)) Option.none), (.mk (Option.some 11) (.mv (.tmp 2)) Option.none), (.mk
  (Option.some 12) (.bin .lss (.tmp 10) (.tmp 11)) Option.none)]) (.cond (.tmp 12) .skip (.exit 0))) (.seq (.block 1 (.seq (.region [(.mk (Option.some 15) (.mv (.tmp 6))
  Option.none), (.mk (Option.some 7) (.mv (.tmp 15)) Option.none)]) (.block 2 (.loop (.seq (.seq (.draws [((.mk (Option.some 16) (.mv (.tmp 7)) Option.none), (0, 13)), ((.mk
  (Option.some 17) (.mv (.tmp 1)) Option.none), (0, 13)), ((.mk (Option.some 18) (.bin .gtr (.tmp 16) (.tmp 17)) Option.none), (0, 13)), ((.mk (Option.some 19) (.mv (.tmp 18))
  Option.none), (0, 13)), ((.mk (Option.some 20) (.mv (.tmp 0)) (Option.some (19, Bool.true))), (0, 13)), ((.mk (Option.some 21) (.mv (.tmp 7)) (Option.some (19, Bool.true))), (0,
  13)), ((.mk (Option.some 22) (.atSlice 1 (.tmp 20) (.tmp 21)) (Option.some (19, Bool.true))), (0, 13)), ((.mk (Option.some 23) (.load 1 Bool.false (.tmp 22)) (Option.some (19,
  Bool.true))), (0, 13)), ((.mk (Option.some 24) (.mv (.tmp 0)) (Option.some (19, Bool.true))), (0, 13)), ((.mk (Option.some 25) (.mv (.tmp 7)) (Option.some (19, Bool.true))), (0,
  13)), ((.mk (Option.some 26) (.bin .sub (.tmp 25) (.const (.int .i64 1))) (Option.some (19, Bool.true))), (0, 13)), ((.mk (Option.some 27) (.atSlice 1 (.tmp 24) (.tmp 26))
  (Option.some (19, Bool.true))), (0, 13)), ((.mk (Option.some 28) (.load 1 Bool.false (.tmp 27)) (Option.some (19, Bool.true))), (0, 13)), ((.mk (Option.some 29) (.call 393 [(.tmp
  23), (.tmp 28)]) (Option.some (19, Bool.true))), (0, 15)), ((.mk (Option.some 30) (.pick (.tmp 19) (.tmp 29) (.const (.bool Bool.false))) Option.none), (14, 15))]) (.cond (.tmp
  30) .skip (.exit 2))) (.seq (.block 3 (.draws [((.mk (Option.some 33) (.mv (.tmp 0)) Option.none), (0, 15)), ((.mk (Option.some 34) (.mv (.tmp 7)) Option.none), (0, 15)), ((.mk
  (Option.some 35) (.mv (.tmp 0)) Option.none), (0, 17)), ((.mk (Option.some 36) (.mv (.tmp 7)) Option.none), (0, 17)), ((.mk (Option.some 37) (.bin .sub (.tmp 36) (.const (.int
  .i64 1))) Option.none), (0, 17)), ((.mk (Option.some 38) (.mv (.tmp 0)) Option.none), (0, 15)), ((.mk (Option.some 39) (.mv (.tmp 7)) Option.none), (0, 15)), ((.mk (Option.some
  40) (.bin .sub (.tmp 39) (.const (.int .i64 1))) Option.none), (0, 15)), ((.mk (Option.some 41) (.atSlice 1 (.tmp 38) (.tmp 40)) Option.none), (0, 15)), ((.mk (Option.some 42)
  (.load 1 Bool.false (.tmp 41)) Option.none), (0, 15)), ((.mk (Option.some 43) (.mv (.tmp 0)) Option.none), (0, 15)), ((.mk (Option.some 44) (.mv (.tmp 7)) Option.none), (0, 15)),
  ((.mk (Option.some 45) (.atSlice 1 (.tmp 43) (.tmp 44)) Option.none), (0, 15)), ((.mk (Option.some 46) (.load 1 Bool.false (.tmp 45)) Option.none), (0, 15)), ((.mk (Option.some
  47) (.atSlice 1 (.tmp 33) (.tmp 34)) Option.none), (0, 15)), ((.mk Option.none (.store 1 (.tmp 47) (.tmp 42)) Option.none), (0, 17)), ((.mk (Option.some 48) (.atSlice 1 (.tmp 35)
  (.tmp 37)) Option.none), (16, 17)), ((.mk Option.none (.store 1 (.tmp 48) (.tmp 46)) Option.none), (16, 18))])) (.region [(.mk (Option.some 31) (.mv (.tmp 7)) Option.none), (.mk
  (Option.some 32) (.bin .sub (.tmp 31) (.const (.int .i64 1))) Option.none), (.mk (Option.some 7) (.mv (.tmp 32)) Option.none)]))))))) (.region [(.mk (Option.some 13) (.mv (.tmp
  6)) Option.none), (.mk (Option.some 14) (.bin .add (.tmp 13) (.const (.int .i64 1))) Option.none), (.mk (Option.some 6) (.mv (.tmp 14)) Option.none)])))))) 49 [])
def a439 : AFn :=
  (.mk (.seq (.region [(.mk (Option.some 4) (.mv (.const (.bool Bool.false))) Option.none)]) (.seq (.region [(.mk (Option.some 5) (.alloc [(.ptr Option.none)]) Option.none)]) (.seq
  (.draws [((.mk (Option.some 6) (.mv (.tmp 1)) Option.none), (0, 2)), ((.mk (Option.some 7) (.mkIface 231 (.tmp 5)) Option.none), (0, 2)), ((.mk (Option.some 8) (.call 153 [(.tmp
  6), (.tmp 7)]) Option.none), (0, 15)), ((.mk (Option.some 9) (.mv (.tmp 8)) Option.none), (3, 15)), ((.mk (Option.some 10) (.load 1 Bool.false (.tmp 5)) (Option.some (9,
  Bool.true))), (3, 15)), ((.mk (Option.some 11) (.nilCheck (.tmp 10)) (Option.some (9, Bool.true))), (3, 15)), ((.mk (Option.some 12) (.fieldAddr 0 (.tmp 11)) (Option.some (9,
  Bool.true))), (3, 15)), ((.mk (Option.some 13) (.load 1 Bool.false (.tmp 12)) (Option.some (9, Bool.true))), (3, 15)), ((.mk (Option.some 14) (.mv (.tmp 0)) (Option.some (9,
  Bool.true))), (3, 15)), ((.mk (Option.some 15) (.nilCheck (.tmp 14)) (Option.some (9, Bool.true))), (3, 15)), ((.mk (Option.some 16) (.fieldAddr 0 (.tmp 15)) (Option.some (9,
  Bool.true))), (3, 15)), ((.mk (Option.some 17) (.load 1 Bool.false (.tmp 16)) (Option.some (9, Bool.true))), (3, 15)), ((.mk (Option.some 18) (.bin .eql (.tmp 13) (.tmp 17))
  (Option.some (9, Bool.true))), (3, 15)), ((.mk (Option.some 19) (.pick (.tmp 9) (.tmp 18) (.const (.bool Bool.false))) Option.none), (3, 15)), ((.mk (Option.some 4) (.mv (.tmp
  19)) Option.none), (3, 15))]) .ret))) 20 [(.tmp 4)])
def a441 : AFn :=
  (.mk (.seq (.region [(.mk (Option.some 1) (.box (.tmp 0)) Option.none), (.mk (Option.some 2) (.mv (.const .nilIface)) Option.none)]) (.seq (.region [(.mk (Option.some 3)
  (.fieldAddr 0 (.tmp 1)) Option.none), (.mk (Option.some 4) (.load 1 Bool.false (.tmp 3)) Option.none), (.mk (Option.some 2) (.mv (.tmp 4)) Option.none)]) .ret)) 5 [(.tmp 2)])
def fns : Nat → Option AFn
  | 9 => some a9
  | 46 => some a46
  | 47 => some a47
  | 48 => some a48
  | 49 => some a49
  | 50 => some a50
  | 51 => some a51
  | 52 => some a52
  | 53 => some a53
  | 54 => some a54
  | 55 => some a55
  | 56 => some a56
  | 57 => some a57
  | 63 => some a63
  | 67 => some a67
  | 68 => some a68
  | 78 => some a78
  | 79 => some a79
  | 81 => some a81
  | 82 => some a82
  | 84 => some a84
  | 85 => some a85
  | 89 => some a89
  | 90 => some a90
  | 92 => some a92
  | 94 => some a94
  | 96 => some a96
  | 108 => some a108
  | 110 => some a110
  | 111 => some a111
  | 112 => some a112
  | 113 => some a113
  | 114 => some a114
  | 115 => some a115
  | 116 => some a116
  | 117 => some a117
  | 118 => some a118
  | 119 => some a119
  | 120 => some a120
  | 121 => some a121
  | 122 => some a122
  | 123 => some a123
  | 124 => some a124
  | 125 => some a125
  | 127 => some a127
  | 128 => some a128
  | 132 => some a132
  | 133 => some a133
  | 134 => some a134
  | 145 => some a145
  | 151 => some a151
  | 152 => some a152
  | 153 => some a153
  | 154 => some a154
  | 155 => some a155
  | 156 => some a156
  | 158 => some a158
  | 159 => some a159
  | 160 => some a160
  | 161 => some a161
  | 164 => some a164
  | 165 => some a165
  | 172 => some a172
  | 173 => some a173
  | 174 => some a174
  | 181 => some a181
  | 183 => some a183
  | 199 => some a199
  | 202 => some a202
  | 204 => some a204
  | 207 => some a207
  | 208 => some a208
  | 209 => some a209
  | 210 => some a210
  | 211 => some a211
  | 212 => some a212
  | 213 => some a213
  | 214 => some a214
  | 215 => some a215
  | 216 => some a216
  | 217 => some a217
  | 219 => some a219
  | 220 => some a220
  | 221 => some a221
  | 222 => some a222
  | 223 => some a223
  | 226 => some a226
  | 227 => some a227
  | 250 => some a250
  | 251 => some a251
  | 252 => some a252
  | 253 => some a253
  | 257 => some a257
  | 258 => some a258
  | 259 => some a259
  | 260 => some a260
  | 262 => some a262
  | 263 => some a263
  | 264 => some a264
  | 265 => some a265
  | 266 => some a266
  | 278 => some a278
  | 279 => some a279
  | 287 => some a287
  | 289 => some a289
  | 297 => some a297
  | 299 => some a299
  | 301 => some a301
  | 302 => some a302
  | 303 => some a303
  | 304 => some a304
  | 305 => some a305
  | 306 => some a306
  | 307 => some a307
  | 309 => some a309
  | 310 => some a310
  | 311 => some a311
  | 312 => some a312
  | 321 => some a321
  | 342 => some a342
  | 346 => some a346
  | 347 => some a347
  | 348 => some a348
  | 349 => some a349
  | 355 => some a355
  | 372 => some a372
  | 377 => some a377
  | 387 => some a387
  | 439 => some a439
  | 441 => some a441
  | _ => none
end Go.Proofs.YtlaoookdegmnnaaGreatDoor
