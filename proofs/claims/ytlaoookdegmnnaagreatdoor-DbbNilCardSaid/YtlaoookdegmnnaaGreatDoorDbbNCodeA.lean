/- The functions of the seat as the abstract machine's code: no program in sight. -/
import Derived.Test.YtlaoookdegmnnaaGreatDoorAmDefs
namespace Go.Proofs.YtlaoookdegmnnaaGreatDoor
open Go.AM
set_option maxRecDepth 100000
def a9 : AFn :=
  (.mk (.seq (.region [(.mk (Option.some 3) (.box (.tmp 1)) Option.none), (.mk (Option.some 4) (.mv (.const (.bool Bool.false))) Option.none)]) (.seq (.region [(.mk (Option.some 5)
  (.mv (.const (.pointer Option.none))) Option.none)]) (.seq (.region [(.mk (Option.some 13) (.mv (.tmp 0)) Option.none), (.mk (Option.some 14) (.call 46 [(.const (.pointer
  Option.none)), (.tmp 13)]) Option.none), (.mk (Option.some 12) (.mv (.tmp 14)) Option.none), (.mk (Option.some 15) (.extract (.tmp 12) 0) Option.none), (.mk (Option.some 16)
  (.extract (.tmp 12) 1) Option.none), (.mk (Option.some 6) (.mv (.tmp 15)) Option.none), (.mk (Option.some 7) (.mv (.tmp 16)) Option.none)]) (.seq (.region [(.mk (Option.some 18)
  (.mv (.tmp 5)) Option.none), (.mk (Option.some 19) (.call 47 [(.tmp 18)]) Option.none), (.mk (Option.some 17) (.mv (.tmp 19)) Option.none), (.mk (Option.some 20) (.extract (.tmp
  17) 0) Option.none), (.mk (Option.some 21) (.extract (.tmp 17) 1) Option.none), (.mk (Option.some 8) (.mv (.tmp 20)) Option.none), (.mk (Option.some 9) (.mv (.tmp 21))
  Option.none)]) (.seq (.region [(.mk (Option.some 23) (.mv (.tmp 5)) Option.none), (.mk (Option.some 24) (.mv (.tmp 0)) Option.none), (.mk (Option.some 25) (.load 4 Bool.true
  (.tmp 3)) Option.none), (.mk (Option.some 26) (.call 48 [(.tmp 23), (.tmp 24), (.tmp 25)]) Option.none), (.mk (Option.some 22) (.mv (.tmp 26)) Option.none), (.mk (Option.some 27)
  (.extract (.tmp 22) 0) Option.none), (.mk (Option.some 28) (.extract (.tmp 22) 1) Option.none), (.mk (Option.some 10) (.mv (.tmp 27)) Option.none), (.mk (Option.some 11) (.mv
  (.tmp 28)) Option.none)]) (.seq (.region [(.mk (Option.some 29) (.mv (.tmp 6)) Option.none), (.mk (Option.some 30) (.eq .ptr Bool.false (.tmp 29) (.const (.pointer Option.none)))
  Option.none), (.mk (Option.some 31) (.mv (.tmp 30)) Option.none), (.mk (Option.some 32) (.mv (.tmp 7)) (Option.some (31, Bool.true))), (.mk (Option.some 33) (.bin .eql (.tmp 32)
  (.const (.int .i64 1))) (Option.some (31, Bool.true))), (.mk (Option.some 34) (.pick (.tmp 31) (.tmp 33) (.const (.bool Bool.false))) Option.none), (.mk (Option.some 35) (.mv
  (.tmp 34)) Option.none), (.mk (Option.some 36) (.mv (.tmp 9)) (Option.some (35, Bool.true))), (.mk (Option.some 37) (.bin .eql (.tmp 36) (.const (.int .i64 1))) (Option.some (35,
  Bool.true))), (.mk (Option.some 38) (.pick (.tmp 35) (.tmp 37) (.const (.bool Bool.false))) Option.none), (.mk (Option.some 39) (.mv (.tmp 38)) Option.none), (.mk (Option.some
  40) (.mv (.tmp 11)) (Option.some (39, Bool.true))), (.mk (Option.some 41) (.bin .eql (.tmp 40) (.const (.int .i64 1))) (Option.some (39, Bool.true))), (.mk (Option.some 42)
  (.pick (.tmp 39) (.tmp 41) (.const (.bool Bool.false))) Option.none), (.mk (Option.some 43) (.mv (.tmp 42)) Option.none), (.mk (Option.some 44) (.mv (.tmp 5)) (Option.some (43,
  Bool.true))), (.mk (Option.some 45) (.mv (.tmp 0)) (Option.some (43, Bool.true))), (.mk (Option.some 46) (.call 49 [(.tmp 44), (.tmp 45)]) (Option.some (43, Bool.true))), (.mk
  (Option.some 47) (.bin .eql (.tmp 46) (.const (.int .i64 1))) (Option.some (43, Bool.true))), (.mk (Option.some 48) (.pick (.tmp 43) (.tmp 47) (.const (.bool Bool.false)))
  Option.none), (.mk (Option.some 49) (.mv (.tmp 48)) Option.none), (.mk (Option.some 50) (.mv (.tmp 5)) (Option.some (49, Bool.true))), (.mk (Option.some 51) (.mv (.tmp 0))
  (Option.some (49, Bool.true))), (.mk (Option.some 52) (.call 50 [(.tmp 50), (.tmp 51)]) (Option.some (49, Bool.true))), (.mk (Option.some 53) (.bin .eql (.tmp 52) (.const (.int
  .i64 1))) (Option.some (49, Bool.true))), (.mk (Option.some 54) (.pick (.tmp 49) (.tmp 53) (.const (.bool Bool.false))) Option.none), (.mk (Option.some 55) (.mv (.tmp 54))
  Option.none), (.mk (Option.some 56) (.mv (.tmp 5)) (Option.some (55, Bool.true))), (.mk (Option.some 57) (.call 51 [(.tmp 56)]) (Option.some (55, Bool.true))), (.mk (Option.some
  58) (.bin .eql (.tmp 57) (.const (.int .i64 1))) (Option.some (55, Bool.true))), (.mk (Option.some 59) (.pick (.tmp 55) (.tmp 58) (.const (.bool Bool.false))) Option.none), (.mk
  (Option.some 60) (.mv (.tmp 59)) Option.none), (.mk (Option.some 61) (.mv (.tmp 5)) (Option.some (60, Bool.true))), (.mk (Option.some 62) (.call 52 [(.tmp 61)]) (Option.some (60,
  Bool.true))), (.mk (Option.some 63) (.len (.tmp 62)) (Option.some (60, Bool.true))), (.mk (Option.some 64) (.bin .eql (.tmp 63) (.const (.int .i64 0))) (Option.some (60,
  Bool.true))), (.mk (Option.some 65) (.pick (.tmp 60) (.tmp 64) (.const (.bool Bool.false))) Option.none), (.mk (Option.some 66) (.mv (.tmp 65)) Option.none), (.mk (Option.some
  67) (.mv (.tmp 5)) (Option.some (66, Bool.true))), (.mk (Option.some 68) (.call 53 [(.tmp 67)]) (Option.some (66, Bool.true))), (.mk (Option.some 69) (.len (.tmp 68))
  (Option.some (66, Bool.true))), (.mk (Option.some 70) (.bin .eql (.tmp 69) (.const (.int .i64 0))) (Option.some (66, Bool.true))), (.mk (Option.some 71) (.pick (.tmp 66) (.tmp
  70) (.const (.bool Bool.false))) Option.none), (.mk (Option.some 72) (.mv (.tmp 71)) Option.none), (.mk (Option.some 73) (.mv (.tmp 5)) (Option.some (72, Bool.true))), (.mk
  (Option.some 74) (.call 54 [(.tmp 73)]) (Option.some (72, Bool.true))), (.mk (Option.some 75) (.len (.tmp 74)) (Option.some (72, Bool.true))), (.mk (Option.some 76) (.bin .eql
  (.tmp 75) (.const (.int .i64 0))) (Option.some (72, Bool.true))), (.mk (Option.some 77) (.pick (.tmp 72) (.tmp 76) (.const (.bool Bool.false))) Option.none), (.mk (Option.some
  78) (.mv (.tmp 77)) Option.none), (.mk (Option.some 79) (.mv (.tmp 5)) (Option.some (78, Bool.true))), (.mk (Option.some 80) (.call 55 [(.tmp 79)]) (Option.some (78,
  Bool.true))), (.mk (Option.some 81) (.bin .eql (.tmp 80) (.const (.int .i64 0))) (Option.some (78, Bool.true))), (.mk (Option.some 82) (.pick (.tmp 78) (.tmp 81) (.const (.bool
  Bool.false))) Option.none), (.mk (Option.some 83) (.mv (.tmp 82)) Option.none), (.mk (Option.some 84) (.mv (.tmp 5)) (Option.some (83, Bool.true))), (.mk (Option.some 85) (.call
  56 [(.tmp 84)]) (Option.some (83, Bool.true))), (.mk (Option.some 86) (.bin .eql (.tmp 85) (.const (.int .i64 0))) (Option.some (83, Bool.true))), (.mk (Option.some 87) (.pick
  (.tmp 83) (.tmp 86) (.const (.bool Bool.false))) Option.none), (.mk (Option.some 88) (.mv (.tmp 87)) Option.none), (.mk (Option.some 89) (.call 57 []) (Option.some (88,
  Bool.true))), (.mk (Option.some 90) (.pick (.tmp 88) (.tmp 89) (.const (.bool Bool.false))) Option.none), (.mk (Option.some 4) (.mv (.tmp 90)) Option.none)]) .ret)))))) 91 [(.tmp
  4)])
def a46 : AFn :=
  (.mk (.seq (.region [(.mk (Option.some 4) (.mv (.const (.pointer Option.none))) Option.none), (.mk (Option.some 5) (.mv (.const (.int .i64 0))) Option.none)]) (.seq (.region [(.mk
  (Option.some 11) (.mv (.tmp 0)) Option.none), (.mk (Option.some 12) (.mv (.tmp 1)) Option.none), (.mk (Option.some 13) (.call 78 [(.tmp 11), (.tmp 12)]) Option.none), (.mk
  (Option.some 10) (.mv (.tmp 13)) Option.none), (.mk (Option.some 14) (.extract (.tmp 10) 0) Option.none), (.mk (Option.some 15) (.extract (.tmp 10) 1) Option.none), (.mk
  (Option.some 6) (.mv (.tmp 14)) Option.none), (.mk (Option.some 7) (.mv (.tmp 15)) Option.none)]) (.seq (.seq (.region [(.mk (Option.some 16) (.mv (.tmp 7)) Option.none), (.mk
  (Option.some 17) (.bin .neq (.tmp 16) (.const (.int .i64 0))) Option.none)]) (.cond (.tmp 17) (.seq (.region [(.mk (Option.some 18) (.mv (.tmp 7)) Option.none), (.mk (Option.some
  4) (.mv (.const (.pointer Option.none))) Option.none), (.mk (Option.some 5) (.mv (.tmp 18)) Option.none)]) .ret) .skip)) (.seq (.region [(.mk (Option.some 19) (.mv (.tmp 6))
  Option.none), (.mk (Option.some 20) (.call 108 [(.const (.slice Option.none 0 0))]) Option.none), (.mk (Option.some 21) .mkMap Option.none), (.mk (Option.some 22) .mkMap
  Option.none), (.mk (Option.some 23) (.build [(.ptr Option.none), (.ptr Option.none), (.map Option.none), (.map Option.none), (.slice Option.none 0 0 0 0), (.int .i64 0)] [(0, (1,
  (.tmp 19))), (1, (1, (.tmp 20))), (2, (1, (.tmp 21))), (3, (1, (.tmp 22))), (5, (1, (.const (.int .i64 1))))]) Option.none), (.mk (Option.some 24) (.box (.tmp 23)) Option.none),
  (.mk (Option.some 8) (.mv (.tmp 24)) Option.none)]) (.seq (.seq (.region [(.mk (Option.some 25) (.mv (.tmp 8)) Option.none), (.mk (Option.some 26) (.call 112 [(.tmp 25)])
  Option.none), (.mk (Option.some 27) (.mv (.tmp 8)) Option.none), (.mk (Option.some 28) (.call 113 [(.tmp 27)]) Option.none), (.mk (Option.some 29) (.buildSlice 2 1 [.nilIface,
  .nilIface] [(0, (1, (.tmp 26))), (1, (1, (.tmp 28)))]) Option.none), (.mk (Option.some 30) (.call 111 [(.tmp 29)]) Option.none), (.mk (Option.some 9) (.mv (.tmp 30))
  Option.none)]) (.seq (.region [(.mk (Option.some 31) (.mv (.tmp 9)) Option.none), (.mk (Option.some 32) (.eq (.iface Bool.true) Bool.true (.tmp 31) (.const .nilIface))
  Option.none)]) (.cond (.tmp 32) (.seq (.region [(.mk (Option.some 4) (.mv (.const (.pointer Option.none))) Option.none), (.mk (Option.some 5) (.mv (.const (.int .i64 6)))
  Option.none)]) .ret) .skip))) (.seq (.region [(.mk (Option.some 33) (.mv (.tmp 8)) Option.none), (.mk (Option.some 4) (.mv (.tmp 33)) Option.none), (.mk (Option.some 5) (.mv
  (.const (.int .i64 0))) Option.none)]) .ret)))))) 34 [(.tmp 4), (.tmp 5)])
def a47 : AFn :=
  (.mk (.seq (.region [(.mk (Option.some 2) (.mv (.const (.int .i64 0))) Option.none), (.mk (Option.some 3) (.mv (.const (.int .i64 0))) Option.none)]) (.seq (.block 0 (.seq (.region
  [(.mk (Option.some 6) (.mv (.tmp 0)) Option.none), (.mk (Option.some 7) (.eq .ptr Bool.false (.tmp 6) (.const (.pointer Option.none))) Option.none), (.mk (Option.some 5) (.mv
  (.tmp 7)) Option.none)]) (.cond (.tmp 5) (.seq (.region [(.mk (Option.some 2) (.mv (.const (.int .i64 0))) Option.none), (.mk (Option.some 3) (.mv (.const (.int .i64 1)))
  Option.none)]) .ret) (.seq (.region [(.mk (Option.some 9) (.mv (.tmp 0)) Option.none), (.mk (Option.some 10) (.nilCheck (.tmp 9)) Option.none), (.mk (Option.some 11) (.fieldAddr
  3 (.tmp 10)) Option.none), (.mk (Option.some 12) (.load 1 Bool.false (.tmp 11)) Option.none), (.mk (Option.some 13) (.lenMap (.tmp 12)) Option.none), (.mk (Option.some 14) (.bin
  .geq (.tmp 13) (.const (.int .i64 32))) Option.none), (.mk (Option.some 15) (.mv (.tmp 14)) Option.none), (.mk (Option.some 16) (.mv (.tmp 0)) (Option.some (15, Bool.false))),
  (.mk (Option.some 17) (.nilCheck (.tmp 16)) (Option.some (15, Bool.false))), (.mk (Option.some 18) (.fieldAddr 5 (.tmp 17)) (Option.some (15, Bool.false))), (.mk (Option.some 19)
  (.load 1 Bool.false (.tmp 18)) (Option.some (15, Bool.false))), (.mk (Option.some 20) (.bin .gtr (.tmp 19) (.const (.int .i64 1073741824))) (Option.some (15, Bool.false))), (.mk
  (Option.some 21) (.pick (.tmp 15) (.const (.bool Bool.true)) (.tmp 20)) Option.none), (.mk (Option.some 8) (.mv (.tmp 21)) Option.none)]) (.cond (.tmp 8) (.seq (.region [(.mk
  (Option.some 2) (.mv (.const (.int .i64 0))) Option.none), (.mk (Option.some 3) (.mv (.const (.int .i64 5))) Option.none)]) .ret) .skip))))) (.seq (.region [(.mk (Option.some 22)
  (.mv (.tmp 0)) Option.none), (.mk (Option.some 23) (.nilCheck (.tmp 22)) Option.none), (.mk (Option.some 24) (.fieldAddr 5 (.tmp 23)) Option.none), (.mk (Option.some 25) (.load 1
  Bool.false (.tmp 24)) Option.none), (.mk (Option.some 4) (.mv (.tmp 25)) Option.none)]) (.seq (.region [(.mk (Option.some 26) (.mv (.tmp 0)) Option.none), (.mk (Option.some 27)
  (.nilCheck (.tmp 26)) Option.none), (.mk (Option.some 28) (.fieldAddr 5 (.tmp 27)) Option.none), (.mk (Option.some 29) (.load 1 Bool.false (.tmp 28)) Option.none), (.mk
  (Option.some 30) (.bin .add (.tmp 29) (.const (.int .i64 1))) Option.none), (.mk (Option.some 31) (.nilCheck (.tmp 26)) Option.none), (.mk (Option.some 32) (.fieldAddr 5 (.tmp
  31)) Option.none), (.mk Option.none (.store 1 (.tmp 32) (.tmp 30)) Option.none)]) (.seq (.region [(.mk (Option.some 33) (.mv (.tmp 0)) Option.none), (.mk (Option.some 34)
  (.nilCheck (.tmp 33)) Option.none), (.mk (Option.some 35) (.fieldAddr 3 (.tmp 34)) Option.none), (.mk (Option.some 36) (.load 1 Bool.false (.tmp 35)) Option.none), (.mk
  (Option.some 37) (.mv (.tmp 4)) Option.none), (.mk (Option.some 38) (.build [(.slice Option.none 0 0 0 0)] []) Option.none), (.mk (Option.some 39) (.box (.tmp 38)) Option.none),
  (.mk Option.none (.mapPut (.int .i64) (.tmp 36) (.tmp 37) (.tmp 39)) Option.none)]) (.seq (.region [(.mk (Option.some 40) (.mv (.tmp 4)) Option.none), (.mk (Option.some 2) (.mv
  (.tmp 40)) Option.none), (.mk (Option.some 3) (.mv (.const (.int .i64 0))) Option.none)]) .ret)))))) 41 [(.tmp 2), (.tmp 3)])
def a48 : AFn :=
  (.mk (.seq (.region [(.mk (Option.some 5) (.box (.tmp 2)) Option.none), (.mk (Option.some 6) (.mv (.const (.int .i64 0))) Option.none), (.mk (Option.some 7) (.mv (.const (.int .i64
  0))) Option.none)]) (.seq (.region [(.mk (Option.some 19) (.mv (.tmp 0)) Option.none), (.mk (Option.some 20) (.mv (.tmp 1)) Option.none), (.mk (Option.some 21) (.call 114 [(.tmp
  19), (.tmp 20)]) Option.none), (.mk (Option.some 18) (.mv (.tmp 21)) Option.none), (.mk (Option.some 22) (.extract (.tmp 18) 0) Option.none), (.mk (Option.some 23) (.extract
  (.tmp 18) 1) Option.none), (.mk (Option.some 8) (.mv (.tmp 22)) Option.none), (.mk (Option.some 9) (.mv (.tmp 23)) Option.none)]) (.seq (.seq (.region [(.mk (Option.some 24) (.mv
  (.tmp 9)) Option.none), (.mk (Option.some 25) (.eq (.iface Bool.true) Bool.false (.tmp 24) (.const .nilIface)) Option.none), (.mk (Option.some 26) (.mv (.tmp 25)) Option.none),
  (.mk (Option.some 27) (.load 4 Bool.true (.tmp 5)) (Option.some (26, Bool.true))), (.mk (Option.some 28) (.call 89 [(.tmp 27)]) (Option.some (26, Bool.true))), (.mk (Option.some
  29) (.un .not (.tmp 28)) (Option.some (26, Bool.true))), (.mk (Option.some 30) (.pick (.tmp 26) (.tmp 29) (.const (.bool Bool.false))) Option.none)]) (.cond (.tmp 30) (.region
  [(.mk (Option.some 31) (.call 90 [(.const (.int .i64 2))]) Option.none), (.mk (Option.some 9) (.mv (.tmp 31)) Option.none)]) .skip)) (.seq (.seq (.region [(.mk (Option.some 32)
  (.mv (.tmp 9)) Option.none), (.mk (Option.some 33) (.eq (.iface Bool.true) Bool.true (.tmp 32) (.const .nilIface)) Option.none)]) (.cond (.tmp 33) (.seq (.region [(.mk
  (Option.some 34) (.mv (.tmp 9)) Option.none), (.mk (Option.some 35) (.call 67 [(.tmp 34)]) Option.none), (.mk (Option.some 6) (.mv (.const (.int .i64 0))) Option.none), (.mk
  (Option.some 7) (.mv (.tmp 35)) Option.none)]) .ret) .skip)) (.seq (.region [(.mk (Option.some 36) (.mv (.tmp 0)) Option.none), (.mk (Option.some 37) (.fieldAddr 1 (.tmp 5))
  Option.none), (.mk (Option.some 38) (.load 1 Bool.false (.tmp 37)) Option.none), (.mk (Option.some 39) (.call 115 [(.tmp 36), (.tmp 38)]) Option.none), (.mk (Option.some 10) (.mv
  (.tmp 39)) Option.none)]) (.seq (.region [(.mk (Option.some 11) (.mv (.const (.int .i64 0))) Option.none), (.mk (Option.some 12) (.mv (.const (.bool Bool.false))) Option.none),
  (.mk (Option.some 13) (.mv (.const (.int .i64 0))) Option.none)]) (.seq (.seq (.region [(.mk (Option.some 40) (.fieldAddr 0 (.tmp 5)) Option.none), (.mk (Option.some 41) (.load 1
  Bool.false (.tmp 40)) Option.none), (.mk (Option.some 42) (.bin .neq (.tmp 41) (.const (.int .i64 2))) Option.none)]) (.cond (.tmp 42) (.region [(.mk (Option.some 44) (.mv (.tmp
  10)) Option.none), (.mk (Option.some 45) (.mv (.tmp 1)) Option.none), (.mk (Option.some 46) (.call 116 [(.tmp 44), (.tmp 45)]) Option.none), (.mk (Option.some 43) (.mv (.tmp 46))
  Option.none), (.mk (Option.some 47) (.extract (.tmp 43) 0) Option.none), (.mk (Option.some 48) (.extract (.tmp 43) 1) Option.none), (.mk (Option.some 49) (.extract (.tmp 43) 2)
  Option.none), (.mk (Option.some 11) (.mv (.tmp 47)) Option.none), (.mk (Option.some 12) (.mv (.tmp 48)) Option.none), (.mk (Option.some 13) (.mv (.tmp 49)) Option.none)]) .skip))
  (.seq (.seq (.region [(.mk (Option.some 50) (.mv (.tmp 13)) Option.none), (.mk (Option.some 51) (.bin .neq (.tmp 50) (.const (.int .i64 0))) Option.none)]) (.cond (.tmp 51) (.seq
  (.region [(.mk (Option.some 52) (.mv (.tmp 13)) Option.none), (.mk (Option.some 6) (.mv (.const (.int .i64 0))) Option.none), (.mk (Option.some 7) (.mv (.tmp 52)) Option.none)])
  .ret) .skip)) (.seq (.region [(.mk (Option.some 54) (.load 4 Bool.true (.tmp 5)) Option.none), (.mk (Option.some 55) (.mv (.tmp 11)) Option.none), (.mk (Option.some 56) (.mv
  (.tmp 12)) Option.none), (.mk (Option.some 57) (.call 92 [(.tmp 54), (.tmp 55), (.tmp 56)]) Option.none), (.mk (Option.some 53) (.mv (.tmp 57)) Option.none), (.mk (Option.some
  58) (.extract (.tmp 53) 0) Option.none), (.mk (Option.some 59) (.extract (.tmp 53) 1) Option.none), (.mk (Option.some 60) (.extract (.tmp 53) 2) Option.none), (.mk (Option.some
  61) (.extract (.tmp 53) 3) Option.none), (.mk (Option.some 14) (.mv (.tmp 58)) Option.none), (.mk (Option.some 15) (.mv (.tmp 59)) Option.none), (.mk (Option.some 16) (.mv (.tmp
  60)) Option.none), (.mk (Option.some 13) (.mv (.tmp 61)) Option.none)]) (.seq (.seq (.region [(.mk (Option.some 62) (.mv (.tmp 13)) Option.none), (.mk (Option.some 63) (.bin .neq
  (.tmp 62) (.const (.int .i64 0))) Option.none), (.mk (Option.some 64) (.mv (.tmp 63)) Option.none), (.mk (Option.some 65) (.fieldAddr 0 (.tmp 5)) (Option.some (64, Bool.false))),
  (.mk (Option.some 66) (.load 1 Bool.false (.tmp 65)) (Option.some (64, Bool.false))), (.mk (Option.some 67) (.bin .neq (.tmp 66) (.const (.int .i64 2))) (Option.some (64,
  Bool.false))), (.mk (Option.some 68) (.mv (.tmp 67)) (Option.some (64, Bool.false))), (.mk (Option.some 69) (.mv (.tmp 14)) (Option.some (68, Bool.true))), (.mk (Option.some 70)
  (.mv (.tmp 11)) (Option.some (68, Bool.true))), (.mk (Option.some 71) (.bin .eql (.tmp 69) (.tmp 70)) (Option.some (68, Bool.true))), (.mk (Option.some 72) (.pick (.tmp 68) (.tmp
  71) (.const (.bool Bool.false))) (Option.some (64, Bool.false))), (.mk (Option.some 73) (.mv (.tmp 72)) (Option.some (64, Bool.false))), (.mk (Option.some 74) (.mv (.tmp 15))
  (Option.some (73, Bool.true))), (.mk (Option.some 75) (.mv (.tmp 12)) (Option.some (73, Bool.true))), (.mk (Option.some 76) (.eqb Bool.false (.tmp 74) (.tmp 75)) (Option.some
  (73, Bool.true))), (.mk (Option.some 77) (.pick (.tmp 73) (.tmp 76) (.const (.bool Bool.false))) (Option.some (64, Bool.false))), (.mk (Option.some 78) (.pick (.tmp 64) (.const
  (.bool Bool.true)) (.tmp 77)) Option.none)]) (.cond (.tmp 78) (.seq (.region [(.mk (Option.some 79) (.mv (.tmp 16)) Option.none), (.mk (Option.some 80) (.mv (.tmp 13))
  Option.none), (.mk (Option.some 6) (.mv (.tmp 79)) Option.none), (.mk (Option.some 7) (.mv (.tmp 80)) Option.none)]) .ret) .skip)) (.seq (.seq (.region [(.mk (Option.some 81)
  (.mv (.tmp 0)) Option.none), (.mk (Option.some 82) (.mv (.tmp 1)) Option.none), (.mk (Option.some 83) (.fieldAddr 1 (.tmp 5)) Option.none), (.mk (Option.some 84) (.load 1
  Bool.false (.tmp 83)) Option.none), (.mk (Option.some 85) (.mv (.tmp 14)) Option.none), (.mk (Option.some 86) (.mv (.tmp 15)) Option.none), (.mk (Option.some 87) (.call 117
  [(.tmp 81), (.tmp 82), (.tmp 84), (.tmp 85), (.tmp 86)]) Option.none), (.mk (Option.some 17) (.mv (.tmp 87)) Option.none)]) (.seq (.region [(.mk (Option.some 88) (.mv (.tmp 17))
  Option.none), (.mk (Option.some 89) (.eq (.iface Bool.true) Bool.true (.tmp 88) (.const .nilIface)) Option.none)]) (.cond (.tmp 89) (.seq (.region [(.mk (Option.some 90) (.mv
  (.tmp 17)) Option.none), (.mk (Option.some 91) (.call 67 [(.tmp 90)]) Option.none), (.mk (Option.some 6) (.mv (.const (.int .i64 0))) Option.none), (.mk (Option.some 7) (.mv
  (.tmp 91)) Option.none)]) .ret) .skip))) (.seq (.seq (.draws [((.mk (Option.some 92) (.mv (.tmp 8)) Option.none), (0, 6)), ((.mk (Option.some 93) (.nilCheck (.tmp 92))
  Option.none), (0, 6)), ((.mk (Option.some 94) (.fieldAddr 0 (.tmp 93)) Option.none), (0, 6)), ((.mk (Option.some 95) (.load 1 Bool.false (.tmp 94)) Option.none), (0, 6)), ((.mk
  (Option.some 96) (.fieldAddr 1 (.tmp 5)) Option.none), (0, 6)), ((.mk (Option.some 97) (.load 1 Bool.false (.tmp 96)) Option.none), (0, 6)), ((.mk (Option.some 98) (.call 118
  [(.tmp 95), (.tmp 97)]) Option.none), (0, 8)), ((.mk (Option.some 99) (.un .not (.tmp 98)) Option.none), (7, 8))]) (.cond (.tmp 99) (.draws [((.mk (Option.some 100) (.mv (.tmp
  8)) Option.none), (0, 11)), ((.mk (Option.some 101) (.mv (.tmp 8)) Option.none), (0, 8)), ((.mk (Option.some 102) (.nilCheck (.tmp 101)) Option.none), (0, 8)), ((.mk (Option.some
  103) (.fieldAddr 0 (.tmp 102)) Option.none), (0, 8)), ((.mk (Option.some 104) (.load 1 Bool.false (.tmp 103)) Option.none), (0, 8)), ((.mk (Option.some 105) (.fieldAddr 1 (.tmp
  5)) Option.none), (0, 7)), ((.mk (Option.some 106) (.load 1 Bool.false (.tmp 105)) Option.none), (0, 7)), ((.mk (Option.some 107) (.buildSlice 1 1 [(.str [])] [(0, (1, (.tmp
  106)))]) Option.none), (0, 8)), ((.mk (Option.some 108) (.append Bool.false 1 16 (.tmp 104) (.tmp 107)) Option.none), (8, 11)), ((.mk (Option.some 109) (.nilCheck (.tmp 100))
  Option.none), (9, 11)), ((.mk (Option.some 110) (.fieldAddr 0 (.tmp 109)) Option.none), (9, 11)), ((.mk Option.none (.store 1 (.tmp 110) (.tmp 108)) Option.none), (9, 12))])
  .skip)) (.seq (.region [(.mk (Option.some 111) (.mv (.tmp 16)) Option.none), (.mk (Option.some 6) (.mv (.tmp 111)) Option.none), (.mk (Option.some 7) (.mv (.const (.int .i64 0)))
  Option.none)]) .ret))))))))))))) 112 [(.tmp 6), (.tmp 7)])
def a49 : AFn :=
  (.mk (.seq (.region [(.mk (Option.some 4) (.mv (.const (.int .i64 0))) Option.none)]) (.seq (.region [(.mk (Option.some 11) (.mv (.tmp 0)) Option.none), (.mk (Option.some 12) (.mv
  (.tmp 1)) Option.none), (.mk (Option.some 13) (.call 114 [(.tmp 11), (.tmp 12)]) Option.none), (.mk (Option.some 10) (.mv (.tmp 13)) Option.none), (.mk (Option.some 14) (.extract
  (.tmp 10) 0) Option.none), (.mk (Option.some 15) (.extract (.tmp 10) 1) Option.none), (.mk (Option.some 5) (.mv (.tmp 14)) Option.none), (.mk (Option.some 6) (.mv (.tmp 15))
  Option.none)]) (.seq (.seq (.region [(.mk (Option.some 16) (.mv (.tmp 6)) Option.none), (.mk (Option.some 17) (.eq (.iface Bool.true) Bool.true (.tmp 16) (.const .nilIface))
  Option.none)]) (.cond (.tmp 17) (.seq (.region [(.mk (Option.some 18) (.mv (.tmp 6)) Option.none), (.mk (Option.some 19) (.call 67 [(.tmp 18)]) Option.none), (.mk (Option.some 4)
  (.mv (.tmp 19)) Option.none)]) .ret) .skip)) (.seq (.seq (.region [(.mk (Option.some 20) (.mv (.tmp 5)) Option.none), (.mk (Option.some 21) (.nilCheck (.tmp 20)) Option.none),
  (.mk (Option.some 22) (.fieldAddr 0 (.tmp 21)) Option.none), (.mk (Option.some 23) (.load 1 Bool.false (.tmp 22)) Option.none), (.mk (Option.some 24) (.len (.tmp 23))
  Option.none), (.mk (Option.some 25) (.bin .gtr (.tmp 24) (.const (.int .i64 0))) Option.none)]) (.cond (.tmp 25) (.seq (.draws [((.mk (Option.some 26) (.mv (.tmp 0))
  Option.none), (0, 14)), ((.mk (Option.some 27) (.nilCheck (.tmp 26)) Option.none), (0, 14)), ((.mk (Option.some 28) (.fieldAddr 0 (.tmp 27)) Option.none), (0, 14)), ((.mk
  (Option.some 29) (.load 1 Bool.false (.tmp 28)) Option.none), (0, 14)), ((.mk (Option.some 30) (.mv (.tmp 1)) Option.none), (0, 6)), ((.mk (Option.some 31) (.conv .u64 (.tmp 30))
  Option.none), (0, 6)), ((.mk (Option.some 32) (.call 120 [(.tmp 31)]) Option.none), (0, 9)), ((.mk (Option.some 33) (.mv (.tmp 0)) Option.none), (0, 9)), ((.mk (Option.some 34)
  (.mv (.tmp 1)) Option.none), (0, 9)), ((.mk (Option.some 35) (.call 122 [(.tmp 33), (.tmp 34)]) Option.none), (7, 10)), ((.mk (Option.some 36) (.call 121 [(.tmp 35)])
  Option.none), (10, 11)), ((.mk (Option.some 37) (.buildSlice 2 1 [(.slice Option.none 0 0 0 0), (.slice Option.none 0 0 0 0)] [(0, (1, (.tmp 32))), (1, (1, (.tmp 36)))])
  Option.none), (11, 12)), ((.mk (Option.some 38) (.call 119 [(.tmp 37)]) Option.none), (12, 13)), ((.mk (Option.some 39) (.buildSlice 1 1 [(.slice Option.none 0 0 0 0)] [(0, (1,
  (.tmp 38)))]) Option.none), (13, 14)), ((.mk (Option.some 40) (.call 68 [(.tmp 29), (.tmp 39)]) Option.none), (14, 16)), ((.mk (Option.some 7) (.mv (.tmp 40)) Option.none), (15,
  16))]) (.seq (.region [(.mk (Option.some 41) (.mv (.tmp 7)) Option.none)]) (.block 0 (.seq (.region [(.mk (Option.some 49) (.bin .eql (.tmp 41) (.const (.int .i64 0)))
  Option.none), (.mk (Option.some 48) (.mv (.tmp 49)) Option.none)]) (.cond (.tmp 48) .skip (.seq (.region [(.mk (Option.some 51) (.bin .eql (.tmp 41) (.const (.int .i64 8)))
  Option.none), (.mk (Option.some 50) (.mv (.tmp 51)) Option.none)]) (.cond (.tmp 50) (.seq (.region [(.mk (Option.some 52) (.mv (.tmp 7)) Option.none), (.mk (Option.some 4) (.mv
  (.tmp 52)) Option.none)]) .ret) (.seq (.region [(.mk (Option.some 42) (.mv (.tmp 0)) Option.none), (.mk (Option.some 43) (.mv (.tmp 1)) Option.none), (.mk (Option.some 44) (.call
  123 [(.tmp 42), (.tmp 43)]) Option.none)]) (.seq (.region [(.mk (Option.some 45) (.mv (.tmp 0)) Option.none), (.mk (Option.some 46) (.call 124 [(.tmp 45)]) Option.none)]) (.seq
  (.region [(.mk (Option.some 47) (.mv (.tmp 7)) Option.none), (.mk (Option.some 4) (.mv (.tmp 47)) Option.none)]) .ret)))))))))) .skip)) (.seq (.seq (.region [(.mk (Option.some
  53) (.mv (.tmp 5)) Option.none), (.mk (Option.some 54) (.nilCheck (.tmp 53)) Option.none), (.mk (Option.some 55) (.fieldAddr 0 (.tmp 54)) Option.none), (.mk (Option.some 56)
  (.load 1 Bool.false (.tmp 55)) Option.none), (.mk (Option.some 57) (.len (.tmp 56)) Option.none), (.mk (Option.some 58) (.mv (.const (.int .i64 0))) Option.none)]) (.block 1
  (.loop (.seq (.region [(.mk (Option.some 59) (.bin .lss (.tmp 58) (.tmp 57)) Option.none)]) (.seq (.cond (.tmp 59) .skip (.exit 1)) (.seq (.block 2 (.seq (.region [(.mk
  (Option.some 60) (.atSlice 1 (.tmp 56) (.tmp 58)) Option.none), (.mk (Option.some 61) (.load 1 Bool.false (.tmp 60)) Option.none), (.mk (Option.some 9) (.mv (.tmp 61))
  Option.none)]) (.region [(.mk (Option.some 62) (.mv (.tmp 0)) Option.none), (.mk (Option.some 63) (.nilCheck (.tmp 62)) Option.none), (.mk (Option.some 64) (.fieldAddr 2 (.tmp
  63)) Option.none), (.mk (Option.some 65) (.load 1 Bool.false (.tmp 64)) Option.none), (.mk (Option.some 66) (.mv (.tmp 9)) Option.none), (.mk (Option.some 67) (.lookup .str (.ptr
  Option.none) Bool.false (.tmp 65) (.tmp 66)) Option.none), (.mk (Option.some 68) (.mv (.tmp 1)) Option.none), (.mk (Option.some 69) (.call 125 [(.tmp 67), (.tmp 68)])
  Option.none)]))) (.region [(.mk (Option.some 70) (.bin .add (.tmp 58) (.const (.int .i64 1))) Option.none), (.mk (Option.some 58) (.mv (.tmp 70)) Option.none)]))))))) (.seq
  (.region [(.mk (Option.some 71) (.mv (.tmp 0)) Option.none), (.mk (Option.some 72) (.nilCheck (.tmp 71)) Option.none), (.mk (Option.some 73) (.fieldAddr 3 (.tmp 72))
  Option.none), (.mk (Option.some 74) (.load 1 Bool.false (.tmp 73)) Option.none), (.mk (Option.some 75) (.mv (.tmp 1)) Option.none), (.mk Option.none (.mapDel (.int .i64) (.tmp
  74) (.tmp 75)) Option.none)]) (.seq (.region [(.mk (Option.some 76) (.mv (.tmp 0)) Option.none), (.mk (Option.some 77) (.mv (.tmp 0)) Option.none), (.mk (Option.some 78)
  (.nilCheck (.tmp 77)) Option.none), (.mk (Option.some 79) (.fieldAddr 4 (.tmp 78)) Option.none), (.mk (Option.some 80) (.load 1 Bool.false (.tmp 79)) Option.none), (.mk
  (Option.some 81) (.mv (.tmp 1)) Option.none), (.mk (Option.some 82) (.buildSlice 1 1 [(.int .i64 0)] [(0, (1, (.tmp 81)))]) Option.none), (.mk (Option.some 83) (.append
  Bool.false 1 8 (.tmp 80) (.tmp 82)) Option.none), (.mk (Option.some 84) (.nilCheck (.tmp 76)) Option.none), (.mk (Option.some 85) (.fieldAddr 4 (.tmp 84)) Option.none), (.mk
  Option.none (.store 1 (.tmp 85) (.tmp 83)) Option.none)]) (.seq (.region [(.mk (Option.some 86) (.mv (.tmp 0)) Option.none), (.mk (Option.some 87) (.call 124 [(.tmp 86)])
  Option.none)]) (.seq (.region [(.mk (Option.some 4) (.mv (.const (.int .i64 0))) Option.none)]) .ret))))))))) 88 [(.tmp 4)])
def a50 : AFn :=
  (.mk (.seq (.region [(.mk (Option.some 4) (.mv (.const (.int .i64 0))) Option.none)]) (.seq (.seq (.region [(.mk (Option.some 8) (.mv (.tmp 0)) Option.none), (.mk (Option.some 9)
  (.mv (.tmp 1)) Option.none), (.mk (Option.some 10) (.call 114 [(.tmp 8), (.tmp 9)]) Option.none), (.mk (Option.some 7) (.mv (.tmp 10)) Option.none), (.mk (Option.some 11)
  (.extract (.tmp 7) 0) Option.none), (.mk (Option.some 12) (.extract (.tmp 7) 1) Option.none), (.mk (Option.some 5) (.mv (.tmp 11)) Option.none), (.mk (Option.some 6) (.mv (.tmp
  12)) Option.none)]) (.seq (.region [(.mk (Option.some 13) (.mv (.tmp 6)) Option.none), (.mk (Option.some 14) (.eq (.iface Bool.true) Bool.true (.tmp 13) (.const .nilIface))
  Option.none)]) (.cond (.tmp 14) (.seq (.region [(.mk (Option.some 15) (.mv (.tmp 6)) Option.none), (.mk (Option.some 16) (.call 67 [(.tmp 15)]) Option.none), (.mk (Option.some 4)
  (.mv (.tmp 16)) Option.none)]) .ret) .skip))) (.seq (.region [(.mk (Option.some 17) (.mv (.tmp 0)) Option.none), (.mk (Option.some 18) (.mv (.tmp 1)) Option.none), (.mk
  (Option.some 19) (.call 123 [(.tmp 17), (.tmp 18)]) Option.none)]) (.seq (.region [(.mk (Option.some 20) (.mv (.tmp 0)) Option.none), (.mk (Option.some 21) (.call 124 [(.tmp
  20)]) Option.none)]) (.seq (.region [(.mk (Option.some 4) (.mv (.const (.int .i64 0))) Option.none)]) .ret))))) 22 [(.tmp 4)])
def a51 : AFn :=
  (.mk (.seq (.region [(.mk (Option.some 2) (.mv (.const (.int .i64 0))) Option.none)]) (.seq (.block 0 (.seq (.region [(.mk (Option.some 5) (.mv (.tmp 0)) Option.none), (.mk
  (Option.some 6) (.eq .ptr Bool.false (.tmp 5) (.const (.pointer Option.none))) Option.none), (.mk (Option.some 4) (.mv (.tmp 6)) Option.none)]) (.cond (.tmp 4) (.seq (.region
  [(.mk (Option.some 2) (.mv (.const (.int .i64 1))) Option.none)]) .ret) (.seq (.region [(.mk (Option.some 8) (.mv (.tmp 0)) Option.none), (.mk (Option.some 9) (.nilCheck (.tmp
  8)) Option.none), (.mk (Option.some 10) (.fieldAddr 3 (.tmp 9)) Option.none), (.mk (Option.some 11) (.load 1 Bool.false (.tmp 10)) Option.none), (.mk (Option.some 12) (.lenMap
  (.tmp 11)) Option.none), (.mk (Option.some 13) (.bin .gtr (.tmp 12) (.const (.int .i64 0))) Option.none), (.mk (Option.some 7) (.mv (.tmp 13)) Option.none)]) (.cond (.tmp 7)
  (.seq (.region [(.mk (Option.some 2) (.mv (.const (.int .i64 9))) Option.none)]) .ret) .skip))))) (.seq (.region [(.mk (Option.some 14) (.call 108 [(.const (.slice Option.none 0
  0))]) Option.none), (.mk (Option.some 15) (.mv (.tmp 0)) Option.none), (.mk (Option.some 16) (.call 52 [(.tmp 15)]) Option.none), (.mk (Option.some 17) (.call 108 [(.tmp 16)])
  Option.none), (.mk (Option.some 18) (.call 126 [(.tmp 14), (.tmp 17)]) Option.none), (.mk (Option.some 3) (.mv (.tmp 18)) Option.none)]) (.seq (.draws [((.mk (Option.some 19)
  (.mv (.tmp 0)) Option.none), (0, 14)), ((.mk (Option.some 20) (.nilCheck (.tmp 19)) Option.none), (0, 14)), ((.mk (Option.some 21) (.fieldAddr 0 (.tmp 20)) Option.none), (0,
  14)), ((.mk (Option.some 22) (.load 1 Bool.false (.tmp 21)) Option.none), (0, 14)), ((.mk (Option.some 23) (.mv (.tmp 0)) Option.none), (0, 9)), ((.mk (Option.some 24) (.nilCheck
  (.tmp 23)) Option.none), (0, 9)), ((.mk (Option.some 25) (.fieldAddr 5 (.tmp 24)) Option.none), (0, 9)), ((.mk (Option.some 26) (.load 1 Bool.false (.tmp 25)) Option.none), (0,
  9)), ((.mk (Option.some 27) (.conv .u64 (.tmp 26)) Option.none), (0, 9)), ((.mk (Option.some 28) (.call 120 [(.tmp 27)]) Option.none), (0, 11)), ((.mk (Option.some 29) (.mv (.tmp
  3)) Option.none), (0, 11)), ((.mk (Option.some 30) (.call 121 [(.tmp 29)]) Option.none), (10, 12)), ((.mk (Option.some 31) (.buildSlice 2 1 [(.slice Option.none 0 0 0 0), (.slice
  Option.none 0 0 0 0)] [(0, (1, (.tmp 28))), (1, (1, (.tmp 30)))]) Option.none), (12, 13)), ((.mk (Option.some 32) (.call 119 [(.tmp 31)]) Option.none), (13, 14)), ((.mk
  (Option.some 33) (.call 77 [(.tmp 22), (.tmp 32)]) Option.none), (14, 16)), ((.mk (Option.some 2) (.mv (.tmp 33)) Option.none), (15, 16))]) .ret)))) 34 [(.tmp 2)])
def a52 : AFn :=
  (.mk (.seq (.region [(.mk (Option.some 2) (.mv (.const (.slice Option.none 0 0))) Option.none)]) (.seq (.seq (.region [(.mk (Option.some 10) (.mv (.tmp 0)) Option.none), (.mk
  (Option.some 11) (.eq .ptr Bool.false (.tmp 10) (.const (.pointer Option.none))) Option.none)]) (.cond (.tmp 11) (.seq (.region [(.mk (Option.some 2) (.mv (.const (.slice
  Option.none 0 0))) Option.none)]) .ret) .skip)) (.seq (.region [(.mk (Option.some 3) (.mv (.const (.slice Option.none 0 0))) Option.none)]) (.seq (.seq (.region [(.mk
  (Option.some 12) (.mv (.tmp 0)) Option.none), (.mk (Option.some 13) (.nilCheck (.tmp 12)) Option.none), (.mk (Option.some 14) (.fieldAddr 1 (.tmp 13)) Option.none), (.mk
  (Option.some 15) (.load 1 Bool.false (.tmp 14)) Option.none), (.mk (Option.some 16) (.call 110 [(.tmp 15)]) Option.none), (.mk (Option.some 17) (.len (.tmp 16)) Option.none),
  (.mk (Option.some 18) (.mv (.const (.int .i64 0))) Option.none)]) (.block 0 (.loop (.seq (.region [(.mk (Option.some 19) (.bin .lss (.tmp 18) (.tmp 17)) Option.none)]) (.seq
  (.cond (.tmp 19) .skip (.exit 0)) (.seq (.block 1 (.seq (.region [(.mk (Option.some 20) (.atSlice 2 (.tmp 16) (.tmp 18)) Option.none), (.mk (Option.some 21) (.load 2 Bool.true
  (.tmp 20)) Option.none), (.mk (Option.some 5) (.alloc [(.str []), (.int .i64 0)]) Option.none), (.mk Option.none (.store 2 (.tmp 5) (.tmp 21)) Option.none)]) (.seq (.draws [((.mk
  (Option.some 22) (.mv (.tmp 0)) Option.none), (0, 8)), ((.mk (Option.some 23) (.nilCheck (.tmp 22)) Option.none), (0, 8)), ((.mk (Option.some 24) (.fieldAddr 2 (.tmp 23))
  Option.none), (0, 8)), ((.mk (Option.some 25) (.load 1 Bool.false (.tmp 24)) Option.none), (0, 8)), ((.mk (Option.some 26) (.fieldAddr 0 (.tmp 5)) Option.none), (0, 8)), ((.mk
  (Option.some 27) (.load 1 Bool.false (.tmp 26)) Option.none), (0, 8)), ((.mk (Option.some 28) (.lookup .str (.ptr Option.none) Bool.false (.tmp 25) (.tmp 27)) Option.none), (0,
  8)), ((.mk (Option.some 29) (.eq .ptr Bool.false (.tmp 28) (.const (.pointer Option.none))) Option.none), (0, 8))]) (.cond (.tmp 29) (.region [(.mk (Option.some 30) (.mv (.tmp
  3)) Option.none), (.mk (Option.some 31) (.load 2 Bool.true (.tmp 5)) Option.none), (.mk (Option.some 32) (.buildSlice 1 2 [(.str []), (.int .i64 0)] [(0, (2, (.tmp 31)))])
  Option.none), (.mk (Option.some 33) (.append Bool.false 2 24 (.tmp 30) (.tmp 32)) Option.none), (.mk (Option.some 3) (.mv (.tmp 33)) Option.none)]) .skip)))) (.region [(.mk
  (Option.some 34) (.bin .add (.tmp 18) (.const (.int .i64 1))) Option.none), (.mk (Option.some 18) (.mv (.tmp 34)) Option.none)]))))))) (.seq (.seq (.region [(.mk (Option.some 35)
  (.mv (.tmp 0)) Option.none), (.mk (Option.some 36) (.nilCheck (.tmp 35)) Option.none), (.mk (Option.some 37) (.fieldAddr 2 (.tmp 36)) Option.none), (.mk (Option.some 38) (.load 1
  Bool.false (.tmp 37)) Option.none), (.mk (Option.some 39) (.range Bool.true (.tmp 38)) Option.none)]) (.block 2 (.loop (.seq (.region [(.mk (Option.some 40) (.next Bool.false
  (.tmp 39)) Option.none), (.mk (Option.some 41) (.extract (.tmp 40) 0) Option.none)]) (.seq (.cond (.tmp 41) .skip (.exit 2)) (.block 3 (.seq (.region [(.mk (Option.some 42)
  (.entry (.tmp 39)) Option.none), (.mk (Option.some 43) (.extract (.tmp 42) 0) Option.none), (.mk (Option.some 44) (.extract (.tmp 42) 1) Option.none), (.mk (Option.some 6) (.mv
  (.tmp 43)) Option.none), (.mk (Option.some 7) (.mv (.tmp 44)) Option.none)]) (.seq (.region [(.mk (Option.some 46) (.mv (.tmp 7)) Option.none), (.mk (Option.some 47) (.call 127
  [(.tmp 46)]) Option.none), (.mk (Option.some 45) (.mv (.tmp 47)) Option.none), (.mk (Option.some 48) (.extract (.tmp 45) 0) Option.none), (.mk (Option.some 49) (.extract (.tmp
  45) 1) Option.none), (.mk (Option.some 8) (.mv (.tmp 48)) Option.none), (.mk (Option.some 9) (.mv (.tmp 49)) Option.none)]) (.seq (.region [(.mk (Option.some 50) (.mv (.tmp 9))
  Option.none)]) (.cond (.tmp 50) (.region [(.mk (Option.some 51) (.mv (.tmp 3)) Option.none), (.mk (Option.some 52) (.mv (.tmp 6)) Option.none), (.mk (Option.some 53) (.mv (.tmp
  8)) Option.none), (.mk (Option.some 54) (.build [(.str []), (.int .i64 0)] [(0, (1, (.tmp 52))), (1, (1, (.tmp 53)))]) Option.none), (.mk (Option.some 55) (.buildSlice 1 2 [(.str
  []), (.int .i64 0)] [(0, (2, (.tmp 54)))]) Option.none), (.mk (Option.some 56) (.append Bool.false 2 24 (.tmp 51) (.tmp 55)) Option.none), (.mk (Option.some 3) (.mv (.tmp 56))
  Option.none)]) .skip)))))))))) (.seq (.region [(.mk (Option.some 57) (.mv (.tmp 3)) Option.none), (.mk (Option.some 58) (.call 128 [(.tmp 57), (.func 129)]) Option.none)]) (.seq
  (.region [(.mk (Option.some 59) (.mv (.tmp 3)) Option.none), (.mk (Option.some 2) (.mv (.tmp 59)) Option.none)]) .ret))))))) 60 [(.tmp 2)])
def a53 : AFn :=
  (.mk (.seq (.region [(.mk (Option.some 2) (.mv (.const (.slice Option.none 0 0))) Option.none)]) (.seq (.seq (.region [(.mk (Option.some 3) (.mv (.tmp 0)) Option.none), (.mk
  (Option.some 4) (.eq .ptr Bool.false (.tmp 3) (.const (.pointer Option.none))) Option.none)]) (.cond (.tmp 4) (.seq (.region [(.mk (Option.some 2) (.mv (.const (.slice
  Option.none 0 0))) Option.none)]) .ret) .skip)) (.seq (.region [(.mk (Option.some 5) (.mv (.tmp 0)) Option.none), (.mk (Option.some 6) (.nilCheck (.tmp 5)) Option.none), (.mk
  (Option.some 7) (.fieldAddr 3 (.tmp 6)) Option.none), (.mk (Option.some 8) (.load 1 Bool.false (.tmp 7)) Option.none), (.mk (Option.some 9) (.call 131 [(.tmp 8)]) Option.none),
  (.mk (Option.some 10) (.call 96 [(.tmp 9)]) Option.none), (.mk (Option.some 2) (.mv (.tmp 10)) Option.none)]) .ret))) 11 [(.tmp 2)])
def a54 : AFn :=
  (.mk (.seq (.region [(.mk (Option.some 2) (.mv (.const (.slice Option.none 0 0))) Option.none)]) (.seq (.seq (.region [(.mk (Option.some 3) (.mv (.tmp 0)) Option.none), (.mk
  (Option.some 4) (.eq .ptr Bool.false (.tmp 3) (.const (.pointer Option.none))) Option.none)]) (.cond (.tmp 4) (.seq (.region [(.mk (Option.some 2) (.mv (.const (.slice
  Option.none 0 0))) Option.none)]) .ret) .skip)) (.seq (.region [(.mk (Option.some 5) (.mv (.tmp 0)) Option.none), (.mk (Option.some 6) (.nilCheck (.tmp 5)) Option.none), (.mk
  (Option.some 7) (.fieldAddr 4 (.tmp 6)) Option.none), (.mk (Option.some 8) (.load 1 Bool.false (.tmp 7)) Option.none), (.mk (Option.some 9) (.call 132 [(.tmp 8)]) Option.none),
  (.mk (Option.some 10) (.call 96 [(.tmp 9)]) Option.none), (.mk (Option.some 2) (.mv (.tmp 10)) Option.none)]) .ret))) 11 [(.tmp 2)])
def a55 : AFn :=
  (.mk (.seq (.region [(.mk (Option.some 2) (.mv (.const (.int .i64 0))) Option.none)]) (.seq (.seq (.region [(.mk (Option.some 3) (.mv (.tmp 0)) Option.none), (.mk (Option.some 4)
  (.eq .ptr Bool.false (.tmp 3) (.const (.pointer Option.none))) Option.none)]) (.cond (.tmp 4) (.seq (.region [(.mk (Option.some 2) (.mv (.const (.int .i64 0))) Option.none)])
  .ret) .skip)) (.seq (.region [(.mk (Option.some 5) (.mv (.tmp 0)) Option.none), (.mk (Option.some 6) (.nilCheck (.tmp 5)) Option.none), (.mk (Option.some 7) (.fieldAddr 5 (.tmp
  6)) Option.none), (.mk (Option.some 8) (.load 1 Bool.false (.tmp 7)) Option.none), (.mk (Option.some 2) (.mv (.tmp 8)) Option.none)]) .ret))) 9 [(.tmp 2)])
def a56 : AFn :=
  (.mk (.seq (.region [(.mk (Option.some 2) (.mv (.const (.int .i64 0))) Option.none)]) (.seq (.seq (.region [(.mk (Option.some 8) (.mv (.tmp 0)) Option.none), (.mk (Option.some 9)
  (.eq .ptr Bool.false (.tmp 8) (.const (.pointer Option.none))) Option.none)]) (.cond (.tmp 9) (.seq (.region [(.mk (Option.some 2) (.mv (.const (.int .i64 0))) Option.none)])
  .ret) .skip)) (.seq (.region [(.mk (Option.some 3) (.mv (.const (.int .i64 0))) Option.none)]) (.seq (.seq (.region [(.mk (Option.some 10) (.mv (.tmp 0)) Option.none), (.mk
  (Option.some 11) (.nilCheck (.tmp 10)) Option.none), (.mk (Option.some 12) (.fieldAddr 2 (.tmp 11)) Option.none), (.mk (Option.some 13) (.load 1 Bool.false (.tmp 12))
  Option.none), (.mk (Option.some 14) (.range Bool.true (.tmp 13)) Option.none)]) (.block 0 (.loop (.seq (.region [(.mk (Option.some 15) (.next Bool.false (.tmp 14)) Option.none),
  (.mk (Option.some 16) (.extract (.tmp 15) 0) Option.none)]) (.seq (.cond (.tmp 16) .skip (.exit 0)) (.block 1 (.seq (.region [(.mk (Option.some 17) (.entry (.tmp 14))
  Option.none), (.mk (Option.some 18) (.extract (.tmp 17) 1) Option.none), (.mk (Option.some 5) (.mv (.tmp 18)) Option.none)]) (.region [(.mk (Option.some 19) (.mv (.tmp 3))
  Option.none), (.mk (Option.some 20) (.mv (.tmp 5)) Option.none), (.mk (Option.some 21) (.call 133 [(.tmp 20)]) Option.none), (.mk (Option.some 22) (.len (.tmp 21)) Option.none),
  (.mk (Option.some 23) (.bin .add (.tmp 19) (.tmp 22)) Option.none), (.mk (Option.some 3) (.mv (.tmp 23)) Option.none)])))))))) (.seq (.seq (.region [(.mk (Option.some 24) (.mv
  (.tmp 0)) Option.none), (.mk (Option.some 25) (.nilCheck (.tmp 24)) Option.none), (.mk (Option.some 26) (.fieldAddr 1 (.tmp 25)) Option.none), (.mk (Option.some 27) (.load 1
  Bool.false (.tmp 26)) Option.none), (.mk (Option.some 28) (.call 110 [(.tmp 27)]) Option.none), (.mk (Option.some 29) (.len (.tmp 28)) Option.none), (.mk (Option.some 30) (.mv
  (.const (.int .i64 0))) Option.none)]) (.block 2 (.loop (.seq (.region [(.mk (Option.some 31) (.bin .lss (.tmp 30) (.tmp 29)) Option.none)]) (.seq (.cond (.tmp 31) .skip (.exit
  2)) (.seq (.block 3 (.seq (.region [(.mk (Option.some 32) (.atSlice 2 (.tmp 28) (.tmp 30)) Option.none), (.mk (Option.some 33) (.load 2 Bool.true (.tmp 32)) Option.none), (.mk
  (Option.some 7) (.alloc [(.str []), (.int .i64 0)]) Option.none), (.mk Option.none (.store 2 (.tmp 7) (.tmp 33)) Option.none)]) (.seq (.draws [((.mk (Option.some 34) (.mv (.tmp
  0)) Option.none), (0, 8)), ((.mk (Option.some 35) (.nilCheck (.tmp 34)) Option.none), (0, 8)), ((.mk (Option.some 36) (.fieldAddr 2 (.tmp 35)) Option.none), (0, 8)), ((.mk
  (Option.some 37) (.load 1 Bool.false (.tmp 36)) Option.none), (0, 8)), ((.mk (Option.some 38) (.fieldAddr 0 (.tmp 7)) Option.none), (0, 8)), ((.mk (Option.some 39) (.load 1
  Bool.false (.tmp 38)) Option.none), (0, 8)), ((.mk (Option.some 40) (.lookup .str (.ptr Option.none) Bool.false (.tmp 37) (.tmp 39)) Option.none), (0, 8)), ((.mk (Option.some 41)
  (.eq .ptr Bool.false (.tmp 40) (.const (.pointer Option.none))) Option.none), (0, 8))]) (.cond (.tmp 41) (.region [(.mk (Option.some 42) (.mv (.tmp 3)) Option.none), (.mk
  (Option.some 43) (.bin .add (.tmp 42) (.const (.int .i64 1))) Option.none), (.mk (Option.some 3) (.mv (.tmp 43)) Option.none)]) .skip)))) (.region [(.mk (Option.some 44) (.bin
  .add (.tmp 30) (.const (.int .i64 1))) Option.none), (.mk (Option.some 30) (.mv (.tmp 44)) Option.none)]))))))) (.seq (.region [(.mk (Option.some 45) (.mv (.tmp 3)) Option.none),
  (.mk (Option.some 2) (.mv (.tmp 45)) Option.none)]) .ret)))))) 46 [(.tmp 2)])
def a57 : AFn :=
  (.mk (.seq (.region [(.mk (Option.some 0) (.mv (.const (.bool Bool.false))) Option.none)]) (.seq (.region [(.mk (Option.some 24) (.call 63 [(.const (.int .i64 1000))])
  Option.none), (.mk (Option.some 23) (.mv (.tmp 24)) Option.none), (.mk (Option.some 25) (.extract (.tmp 23) 0) Option.none), (.mk (Option.some 26) (.extract (.tmp 23) 1)
  Option.none), (.mk (Option.some 1) (.mv (.tmp 25)) Option.none), (.mk (Option.some 2) (.mv (.tmp 26)) Option.none)]) (.seq (.region [(.mk (Option.some 28) (.mv (.tmp 1))
  Option.none), (.mk (Option.some 29) (.call 46 [(.tmp 28), (.const (.int .i64 100))]) Option.none), (.mk (Option.some 27) (.mv (.tmp 29)) Option.none), (.mk (Option.some 30)
  (.extract (.tmp 27) 0) Option.none), (.mk (Option.some 31) (.extract (.tmp 27) 1) Option.none), (.mk (Option.some 3) (.mv (.tmp 30)) Option.none), (.mk (Option.some 4) (.mv (.tmp
  31)) Option.none)]) (.seq (.seq (.region [(.mk (Option.some 32) (.mv (.tmp 4)) Option.none), (.mk (Option.some 33) (.bin .neq (.tmp 32) (.const (.int .i64 0))) Option.none), (.mk
  (Option.some 34) (.mv (.tmp 33)) Option.none), (.mk (Option.some 35) (.mv (.tmp 3)) (Option.some (34, Bool.false))), (.mk (Option.some 36) (.eq .ptr Bool.false (.tmp 35) (.const
  (.pointer Option.none))) (Option.some (34, Bool.false))), (.mk (Option.some 37) (.pick (.tmp 34) (.const (.bool Bool.true)) (.tmp 36)) Option.none)]) (.cond (.tmp 37) (.seq
  (.region [(.mk (Option.some 0) (.mv (.const (.bool Bool.false))) Option.none)]) .ret) .skip)) (.seq (.region [(.mk (Option.some 39) (.mv (.tmp 3)) Option.none), (.mk (Option.some
  40) (.call 47 [(.tmp 39)]) Option.none), (.mk (Option.some 38) (.mv (.tmp 40)) Option.none), (.mk (Option.some 41) (.extract (.tmp 38) 0) Option.none), (.mk (Option.some 42)
  (.extract (.tmp 38) 1) Option.none), (.mk (Option.some 5) (.mv (.tmp 41)) Option.none), (.mk (Option.some 6) (.mv (.tmp 42)) Option.none)]) (.seq (.region [(.mk (Option.some 44)
  (.mv (.tmp 3)) Option.none), (.mk (Option.some 45) (.call 47 [(.tmp 44)]) Option.none), (.mk (Option.some 43) (.mv (.tmp 45)) Option.none), (.mk (Option.some 46) (.extract (.tmp
  43) 0) Option.none), (.mk (Option.some 47) (.extract (.tmp 43) 1) Option.none), (.mk (Option.some 7) (.mv (.tmp 46)) Option.none), (.mk (Option.some 8) (.mv (.tmp 47))
  Option.none)]) (.seq (.region [(.mk (Option.some 49) (.mv (.tmp 3)) Option.none), (.mk (Option.some 50) (.mv (.tmp 7)) Option.none), (.mk (Option.some 51) (.call 134 [(.const
  (.int .i64 1)), (.const (.string (ByteArray.mk #[120]))), (.const (.int .i64 0))]) Option.none), (.mk (Option.some 52) (.call 48 [(.tmp 49), (.tmp 50), (.tmp 51)]) Option.none),
  (.mk (Option.some 48) (.mv (.tmp 52)) Option.none), (.mk (Option.some 53) (.extract (.tmp 48) 0) Option.none), (.mk (Option.some 54) (.extract (.tmp 48) 1) Option.none), (.mk
  (Option.some 9) (.mv (.tmp 53)) Option.none), (.mk (Option.some 10) (.mv (.tmp 54)) Option.none)]) (.seq (.region [(.mk (Option.some 56) (.mv (.tmp 3)) Option.none), (.mk
  (Option.some 57) (.mv (.tmp 5)) Option.none), (.mk (Option.some 58) (.call 134 [(.const (.int .i64 2)), (.const (.string (ByteArray.mk #[120]))), (.const (.int .i64 5))])
  Option.none), (.mk (Option.some 59) (.call 48 [(.tmp 56), (.tmp 57), (.tmp 58)]) Option.none), (.mk (Option.some 55) (.mv (.tmp 59)) Option.none), (.mk (Option.some 60) (.extract
  (.tmp 55) 0) Option.none), (.mk (Option.some 61) (.extract (.tmp 55) 1) Option.none), (.mk (Option.some 11) (.mv (.tmp 60)) Option.none), (.mk (Option.some 12) (.mv (.tmp 61))
  Option.none)]) (.seq (.region [(.mk (Option.some 63) (.mv (.tmp 3)) Option.none), (.mk (Option.some 64) (.mv (.tmp 7)) Option.none), (.mk (Option.some 65) (.call 134 [(.const
  (.int .i64 2)), (.const (.string (ByteArray.mk #[121]))), (.const (.int .i64 1))]) Option.none), (.mk (Option.some 66) (.call 48 [(.tmp 63), (.tmp 64), (.tmp 65)]) Option.none),
  (.mk (Option.some 62) (.mv (.tmp 66)) Option.none), (.mk (Option.some 67) (.extract (.tmp 62) 0) Option.none), (.mk (Option.some 68) (.extract (.tmp 62) 1) Option.none), (.mk
  (Option.some 13) (.mv (.tmp 67)) Option.none), (.mk (Option.some 14) (.mv (.tmp 68)) Option.none)]) (.seq (.region [(.mk (Option.some 70) (.mv (.tmp 3)) Option.none), (.mk
  (Option.some 71) (.call 47 [(.tmp 70)]) Option.none), (.mk (Option.some 69) (.mv (.tmp 71)) Option.none), (.mk (Option.some 72) (.extract (.tmp 69) 0) Option.none), (.mk
  (Option.some 73) (.extract (.tmp 69) 1) Option.none), (.mk (Option.some 15) (.mv (.tmp 72)) Option.none), (.mk (Option.some 16) (.mv (.tmp 73)) Option.none)]) (.seq (.region
  [(.mk (Option.some 75) (.mv (.tmp 3)) Option.none), (.mk (Option.some 76) (.mv (.tmp 15)) Option.none), (.mk (Option.some 77) (.call 134 [(.const (.int .i64 1)), (.const (.string
  (ByteArray.mk #[121]))), (.const (.int .i64 0))]) Option.none), (.mk (Option.some 78) (.call 48 [(.tmp 75), (.tmp 76), (.tmp 77)]) Option.none), (.mk (Option.some 74) (.mv (.tmp
  78)) Option.none), (.mk (Option.some 79) (.extract (.tmp 74) 0) Option.none), (.mk (Option.some 80) (.extract (.tmp 74) 1) Option.none), (.mk (Option.some 17) (.mv (.tmp 79))
  Option.none), (.mk (Option.some 18) (.mv (.tmp 80)) Option.none)]) (.seq (.region [(.mk (Option.some 81) (.mv (.tmp 3)) Option.none), (.mk (Option.some 82) (.mv (.tmp 7))
  Option.none), (.mk (Option.some 83) (.call 49 [(.tmp 81), (.tmp 82)]) Option.none), (.mk (Option.some 19) (.mv (.tmp 83)) Option.none)]) (.seq (.region [(.mk (Option.some 85)
  (.mv (.tmp 3)) Option.none), (.mk (Option.some 86) (.mv (.tmp 15)) Option.none), (.mk (Option.some 87) (.call 134 [(.const (.int .i64 1)), (.const (.string (ByteArray.mk
  #[121]))), (.const (.int .i64 0))]) Option.none), (.mk (Option.some 88) (.call 48 [(.tmp 85), (.tmp 86), (.tmp 87)]) Option.none), (.mk (Option.some 84) (.mv (.tmp 88))
  Option.none), (.mk (Option.some 89) (.extract (.tmp 84) 0) Option.none), (.mk (Option.some 90) (.extract (.tmp 84) 1) Option.none), (.mk (Option.some 20) (.mv (.tmp 89))
  Option.none), (.mk (Option.some 21) (.mv (.tmp 90)) Option.none)]) (.seq (.region [(.mk (Option.some 91) (.mv (.tmp 3)) Option.none), (.mk (Option.some 92) (.call 54 [(.tmp 91)])
  Option.none), (.mk (Option.some 22) (.mv (.tmp 92)) Option.none)]) (.seq (.region [(.mk (Option.some 93) (.mv (.tmp 5)) Option.none), (.mk (Option.some 94) (.bin .eql (.tmp 93)
  (.const (.int .i64 1))) Option.none), (.mk (Option.some 95) (.mv (.tmp 94)) Option.none), (.mk (Option.some 96) (.mv (.tmp 7)) (Option.some (95, Bool.true))), (.mk (Option.some
  97) (.bin .eql (.tmp 96) (.const (.int .i64 2))) (Option.some (95, Bool.true))), (.mk (Option.some 98) (.pick (.tmp 95) (.tmp 97) (.const (.bool Bool.false))) Option.none), (.mk
  (Option.some 99) (.mv (.tmp 98)) Option.none), (.mk (Option.some 100) (.mv (.tmp 9)) (Option.some (99, Bool.true))), (.mk (Option.some 101) (.bin .eql (.tmp 100) (.const (.int
  .i64 0))) (Option.some (99, Bool.true))), (.mk (Option.some 102) (.pick (.tmp 99) (.tmp 101) (.const (.bool Bool.false))) Option.none), (.mk (Option.some 103) (.mv (.tmp 102))
  Option.none), (.mk (Option.some 104) (.mv (.tmp 10)) (Option.some (103, Bool.true))), (.mk (Option.some 105) (.bin .eql (.tmp 104) (.const (.int .i64 0))) (Option.some (103,
  Bool.true))), (.mk (Option.some 106) (.pick (.tmp 103) (.tmp 105) (.const (.bool Bool.false))) Option.none), (.mk (Option.some 107) (.mv (.tmp 106)) Option.none), (.mk
  (Option.some 108) (.mv (.tmp 12)) (Option.some (107, Bool.true))), (.mk (Option.some 109) (.bin .eql (.tmp 108) (.const (.int .i64 22))) (Option.some (107, Bool.true))), (.mk
  (Option.some 110) (.pick (.tmp 107) (.tmp 109) (.const (.bool Bool.false))) Option.none), (.mk (Option.some 111) (.mv (.tmp 110)) Option.none), (.mk (Option.some 112) (.mv (.tmp
  13)) (Option.some (111, Bool.true))), (.mk (Option.some 113) (.bin .eql (.tmp 112) (.const (.int .i64 1))) (Option.some (111, Bool.true))), (.mk (Option.some 114) (.pick (.tmp
  111) (.tmp 113) (.const (.bool Bool.false))) Option.none), (.mk (Option.some 115) (.mv (.tmp 114)) Option.none), (.mk (Option.some 116) (.mv (.tmp 14)) (Option.some (115,
  Bool.true))), (.mk (Option.some 117) (.bin .eql (.tmp 116) (.const (.int .i64 0))) (Option.some (115, Bool.true))), (.mk (Option.some 118) (.pick (.tmp 115) (.tmp 117) (.const
  (.bool Bool.false))) Option.none), (.mk (Option.some 119) (.mv (.tmp 118)) Option.none), (.mk (Option.some 120) (.mv (.tmp 15)) (Option.some (119, Bool.true))), (.mk (Option.some
  121) (.bin .eql (.tmp 120) (.const (.int .i64 3))) (Option.some (119, Bool.true))), (.mk (Option.some 122) (.pick (.tmp 119) (.tmp 121) (.const (.bool Bool.false))) Option.none),
  (.mk (Option.some 123) (.mv (.tmp 122)) Option.none), (.mk (Option.some 124) (.mv (.tmp 18)) (Option.some (123, Bool.true))), (.mk (Option.some 125) (.bin .eql (.tmp 124) (.const
  (.int .i64 20))) (Option.some (123, Bool.true))), (.mk (Option.some 126) (.pick (.tmp 123) (.tmp 125) (.const (.bool Bool.false))) Option.none), (.mk (Option.some 127) (.mv (.tmp
  126)) Option.none), (.mk (Option.some 128) (.mv (.tmp 19)) (Option.some (127, Bool.true))), (.mk (Option.some 129) (.bin .eql (.tmp 128) (.const (.int .i64 0))) (Option.some
  (127, Bool.true))), (.mk (Option.some 130) (.pick (.tmp 127) (.tmp 129) (.const (.bool Bool.false))) Option.none), (.mk (Option.some 131) (.mv (.tmp 130)) Option.none), (.mk
  (Option.some 132) (.mv (.tmp 20)) (Option.some (131, Bool.true))), (.mk (Option.some 133) (.bin .eql (.tmp 132) (.const (.int .i64 1))) (Option.some (131, Bool.true))), (.mk
  (Option.some 134) (.pick (.tmp 131) (.tmp 133) (.const (.bool Bool.false))) Option.none), (.mk (Option.some 135) (.mv (.tmp 134)) Option.none), (.mk (Option.some 136) (.mv (.tmp
  21)) (Option.some (135, Bool.true))), (.mk (Option.some 137) (.bin .eql (.tmp 136) (.const (.int .i64 0))) (Option.some (135, Bool.true))), (.mk (Option.some 138) (.pick (.tmp
  135) (.tmp 137) (.const (.bool Bool.false))) Option.none), (.mk (Option.some 139) (.mv (.tmp 138)) Option.none), (.mk (Option.some 140) (.mv (.tmp 22)) (Option.some (139,
  Bool.true))), (.mk (Option.some 141) (.len (.tmp 140)) (Option.some (139, Bool.true))), (.mk (Option.some 142) (.bin .eql (.tmp 141) (.const (.int .i64 1))) (Option.some (139,
  Bool.true))), (.mk (Option.some 143) (.pick (.tmp 139) (.tmp 142) (.const (.bool Bool.false))) Option.none), (.mk (Option.some 144) (.mv (.tmp 143)) Option.none), (.mk
  (Option.some 145) (.mv (.tmp 3)) (Option.some (144, Bool.true))), (.mk (Option.some 146) (.call 52 [(.tmp 145)]) (Option.some (144, Bool.true))), (.mk (Option.some 147) (.len
  (.tmp 146)) (Option.some (144, Bool.true))), (.mk (Option.some 148) (.bin .eql (.tmp 147) (.const (.int .i64 1))) (Option.some (144, Bool.true))), (.mk (Option.some 149) (.pick
  (.tmp 144) (.tmp 148) (.const (.bool Bool.false))) Option.none), (.mk (Option.some 0) (.mv (.tmp 149)) Option.none)]) .ret))))))))))))))) 150 [(.tmp 0)])
def a63 : AFn :=
  (.mk (.seq (.region [(.mk (Option.some 2) (.mv (.const (.pointer Option.none))) Option.none), (.mk (Option.some 3) (.mv (.const (.int .i64 0))) Option.none)]) (.seq (.seq (.region
  [(.mk (Option.some 4) (.mv (.tmp 0)) Option.none), (.mk (Option.some 5) (.bin .lss (.tmp 4) (.const (.int .i64 0))) Option.none), (.mk (Option.some 6) (.mv (.tmp 5))
  Option.none), (.mk (Option.some 7) (.mv (.tmp 0)) (Option.some (6, Bool.false))), (.mk (Option.some 8) (.bin .gtr (.tmp 7) (.const (.int .i64 1048576))) (Option.some (6,
  Bool.false))), (.mk (Option.some 9) (.pick (.tmp 6) (.const (.bool Bool.true)) (.tmp 8)) Option.none)]) (.cond (.tmp 9) (.seq (.region [(.mk (Option.some 2) (.mv (.const
  (.pointer Option.none))) Option.none), (.mk (Option.some 3) (.mv (.const (.int .i64 2))) Option.none)]) .ret) .skip)) (.seq (.region [(.mk (Option.some 10) (.mv (.tmp 0))
  Option.none), (.mk (Option.some 11) .mkMap Option.none), (.mk (Option.some 12) (.build [(.int .i64 0), (.map Option.none), (.int .i64 0), (.bool Bool.false)] [(0, (1, (.tmp
  10))), (1, (1, (.tmp 11))), (2, (1, (.const (.int .i64 (-1))))), (3, (1, (.const (.bool Bool.false))))]) Option.none), (.mk (Option.some 13) (.box (.tmp 12)) Option.none), (.mk
  (Option.some 2) (.mv (.tmp 13)) Option.none), (.mk (Option.some 3) (.mv (.const (.int .i64 0))) Option.none)]) .ret))) 14 [(.tmp 2), (.tmp 3)])
def a67 : AFn :=
  (.mk (.seq (.region [(.mk (Option.some 2) (.mv (.const (.int .i64 0))) Option.none)]) (.seq (.region [(.mk (Option.some 3) (.alloc [(.ptr Option.none)]) Option.none)]) (.seq
  (.block 0 (.seq (.region [(.mk (Option.some 5) (.mv (.tmp 0)) Option.none), (.mk (Option.some 6) (.eq (.iface Bool.true) Bool.false (.tmp 5) (.const .nilIface)) Option.none),
  (.mk (Option.some 4) (.mv (.tmp 6)) Option.none)]) (.cond (.tmp 4) (.seq (.region [(.mk (Option.some 2) (.mv (.const (.int .i64 0))) Option.none)]) .ret) (.seq (.region [(.mk
  (Option.some 8) (.mv (.tmp 0)) Option.none), (.mk (Option.some 9) (.mkIface 231 (.tmp 3)) Option.none), (.mk (Option.some 10) (.call 153 [(.tmp 8), (.tmp 9)]) Option.none), (.mk
  (Option.some 7) (.mv (.tmp 10)) Option.none)]) (.cond (.tmp 7) (.seq (.region [(.mk (Option.some 11) (.load 1 Bool.false (.tmp 3)) Option.none), (.mk (Option.some 12) (.nilCheck
  (.tmp 11)) Option.none), (.mk (Option.some 13) (.fieldAddr 0 (.tmp 12)) Option.none), (.mk (Option.some 14) (.load 1 Bool.false (.tmp 13)) Option.none), (.mk (Option.some 2) (.mv
  (.tmp 14)) Option.none)]) .ret) .skip))))) (.seq (.region [(.mk (Option.some 2) (.mv (.const (.int .i64 2))) Option.none)]) .ret)))) 15 [(.tmp 2)])
def a68 : AFn :=
  (.mk (.seq (.region [(.mk (Option.some 4) (.mv (.const (.int .i64 0))) Option.none)]) (.seq (.seq (.region [(.mk (Option.some 6) (.mv (.tmp 0)) Option.none), (.mk (Option.some 7)
  (.eq .ptr Bool.false (.tmp 6) (.const (.pointer Option.none))) Option.none)]) (.cond (.tmp 7) (.seq (.region [(.mk (Option.some 4) (.mv (.const (.int .i64 1))) Option.none)])
  .ret) .skip)) (.seq (.seq (.region [(.mk (Option.some 8) (.mv (.tmp 0)) Option.none), (.mk (Option.some 9) (.mv (.tmp 1)) Option.none), (.mk (Option.some 10) (.call 154 [(.tmp
  8), (.tmp 9)]) Option.none), (.mk (Option.some 5) (.mv (.tmp 10)) Option.none)]) (.seq (.region [(.mk (Option.some 11) (.mv (.tmp 5)) Option.none), (.mk (Option.some 12) (.eq
  (.iface Bool.true) Bool.true (.tmp 11) (.const .nilIface)) Option.none)]) (.cond (.tmp 12) (.seq (.region [(.mk (Option.some 13) (.mv (.tmp 5)) Option.none), (.mk (Option.some
  14) (.call 67 [(.tmp 13)]) Option.none), (.mk (Option.some 4) (.mv (.tmp 14)) Option.none)]) .ret) .skip))) (.seq (.region [(.mk (Option.some 15) (.mv (.tmp 0)) Option.none),
  (.mk (Option.some 16) (.call 155 [(.tmp 15)]) Option.none), (.mk (Option.some 4) (.mv (.tmp 16)) Option.none)]) .ret)))) 17 [(.tmp 4)])
def a78 : AFn :=
  (.mk (.seq (.region [(.mk (Option.some 4) (.mv (.const (.pointer Option.none))) Option.none), (.mk (Option.some 5) (.mv (.const (.int .i64 0))) Option.none)]) (.seq (.block 0 (.seq
  (.region [(.mk (Option.some 9) (.mv (.tmp 0)) Option.none), (.mk (Option.some 10) (.eq .ptr Bool.false (.tmp 9) (.const (.pointer Option.none))) Option.none), (.mk (Option.some
  8) (.mv (.tmp 10)) Option.none)]) (.cond (.tmp 8) (.seq (.region [(.mk (Option.some 4) (.mv (.const (.pointer Option.none))) Option.none), (.mk (Option.some 5) (.mv (.const (.int
  .i64 1))) Option.none)]) .ret) (.seq (.region [(.mk (Option.some 12) (.mv (.tmp 1)) Option.none), (.mk (Option.some 13) (.bin .lss (.tmp 12) (.const (.int .i64 16)))
  Option.none), (.mk (Option.some 14) (.mv (.tmp 13)) Option.none), (.mk (Option.some 15) (.mv (.tmp 1)) (Option.some (14, Bool.false))), (.mk (Option.some 16) (.bin .gtr (.tmp 15)
  (.const (.int .i64 1048576))) (Option.some (14, Bool.false))), (.mk (Option.some 17) (.pick (.tmp 14) (.const (.bool Bool.true)) (.tmp 16)) Option.none), (.mk (Option.some 11)
  (.mv (.tmp 17)) Option.none)]) (.cond (.tmp 11) (.seq (.region [(.mk (Option.some 4) (.mv (.const (.pointer Option.none))) Option.none), (.mk (Option.some 5) (.mv (.const (.int
  .i64 2))) Option.none)]) .ret) .skip))))) (.seq (.region [(.mk (Option.some 18) (.mv (.tmp 0)) Option.none), (.mk (Option.some 19) (.mv (.tmp 1)) Option.none), (.mk (Option.some
  20) (.build [(.ptr Option.none), (.int .i64 0), (.int .i64 0), (.slice Option.none 0 0 0 0), (.slice Option.none 0 0 0 0)] [(0, (1, (.tmp 18))), (1, (1, (.tmp 19))), (2, (1,
  (.const (.int .i64 (-1)))))]) Option.none), (.mk (Option.some 21) (.box (.tmp 20)) Option.none), (.mk (Option.some 6) (.mv (.tmp 21)) Option.none)]) (.seq (.region [(.mk
  (Option.some 22) (.mv (.tmp 6)) Option.none), (.mk (Option.some 23) (.call 164 [(.tmp 22)]) Option.none), (.mk (Option.some 7) (.mv (.tmp 23)) Option.none)]) (.seq (.seq (.region
  [(.mk (Option.some 24) (.mv (.tmp 7)) Option.none), (.mk (Option.some 25) (.eq (.iface Bool.true) Bool.false (.tmp 24) (.const .nilIface)) Option.none)]) (.cond (.tmp 25)
  (.region [(.mk (Option.some 26) (.mv (.tmp 6)) Option.none), (.mk (Option.some 27) (.call 165 [(.tmp 26)]) Option.none), (.mk (Option.some 7) (.mv (.tmp 27)) Option.none)])
  .skip)) (.seq (.seq (.region [(.mk (Option.some 28) (.mv (.tmp 7)) Option.none), (.mk (Option.some 29) (.eq (.iface Bool.true) Bool.true (.tmp 28) (.const .nilIface))
  Option.none)]) (.cond (.tmp 29) (.seq (.region [(.mk (Option.some 30) (.mv (.tmp 7)) Option.none), (.mk (Option.some 31) (.call 67 [(.tmp 30)]) Option.none), (.mk (Option.some 4)
  (.mv (.const (.pointer Option.none))) Option.none), (.mk (Option.some 5) (.mv (.tmp 31)) Option.none)]) .ret) .skip)) (.seq (.region [(.mk (Option.some 32) (.mv (.tmp 6))
  Option.none), (.mk (Option.some 4) (.mv (.tmp 32)) Option.none), (.mk (Option.some 5) (.mv (.const (.int .i64 0))) Option.none)]) .ret))))))) 33 [(.tmp 4), (.tmp 5)])
def a79 : AFn :=
  (.mk (.seq (.region [(.mk (Option.some 2) (.mv (.const (.slice Option.none 0 0))) Option.none)]) (.seq (.seq (.region [(.mk (Option.some 3) (.mv (.tmp 0)) Option.none), (.mk
  (Option.some 4) (.eq .ptr Bool.false (.tmp 3) (.const (.pointer Option.none))) Option.none)]) (.cond (.tmp 4) (.seq (.region [(.mk (Option.some 2) (.mv (.const (.slice
  Option.none 0 0))) Option.none)]) .ret) .skip)) (.seq (.region [(.mk (Option.some 5) (.mv (.tmp 0)) Option.none), (.mk (Option.some 6) (.nilCheck (.tmp 5)) Option.none), (.mk
  (Option.some 7) (.fieldAddr 3 (.tmp 6)) Option.none), (.mk (Option.some 8) (.load 1 Bool.false (.tmp 7)) Option.none), (.mk (Option.some 9) (.call 85 [(.tmp 8)]) Option.none),
  (.mk (Option.some 2) (.mv (.tmp 9)) Option.none)]) .ret))) 10 [(.tmp 2)])
def a81 : AFn :=
  (.mk (.seq (.region [(.mk (Option.some 2) (.mv (.const (.slice Option.none 0 0))) Option.none)]) (.seq (.seq (.region [(.mk (Option.some 6) (.mv (.tmp 0)) Option.none), (.mk
  (Option.some 7) (.eq .ptr Bool.false (.tmp 6) (.const (.pointer Option.none))) Option.none)]) (.cond (.tmp 7) (.seq (.region [(.mk (Option.some 2) (.mv (.const (.slice
  Option.none 0 0))) Option.none)]) .ret) .skip)) (.seq (.region [(.mk (Option.some 3) (.mv (.const (.slice Option.none 0 0))) Option.none)]) (.seq (.seq (.region [(.mk
  (Option.some 8) (.mv (.tmp 0)) Option.none), (.mk (Option.some 9) (.nilCheck (.tmp 8)) Option.none), (.mk (Option.some 10) (.fieldAddr 4 (.tmp 9)) Option.none), (.mk (Option.some
  11) (.load 1 Bool.false (.tmp 10)) Option.none), (.mk (Option.some 12) (.len (.tmp 11)) Option.none), (.mk (Option.some 13) (.mv (.const (.int .i64 0))) Option.none)]) (.block 0
  (.loop (.seq (.region [(.mk (Option.some 14) (.bin .lss (.tmp 13) (.tmp 12)) Option.none)]) (.seq (.cond (.tmp 14) .skip (.exit 0)) (.seq (.block 1 (.seq (.region [(.mk
  (Option.some 15) (.atSlice 1 (.tmp 11) (.tmp 13)) Option.none), (.mk (Option.some 16) (.load 1 Bool.false (.tmp 15)) Option.none), (.mk (Option.some 5) (.mv (.tmp 16))
  Option.none)]) (.region [(.mk (Option.some 17) (.mv (.tmp 3)) Option.none), (.mk (Option.some 18) (.mv (.tmp 5)) Option.none), (.mk (Option.some 19) (.call 85 [(.tmp 18)])
  Option.none), (.mk (Option.some 20) (.buildSlice 1 1 [(.slice Option.none 0 0 0 0)] [(0, (1, (.tmp 19)))]) Option.none), (.mk (Option.some 21) (.append Bool.false 1 24 (.tmp 17)
  (.tmp 20)) Option.none), (.mk (Option.some 3) (.mv (.tmp 21)) Option.none)]))) (.region [(.mk (Option.some 22) (.bin .add (.tmp 13) (.const (.int .i64 1))) Option.none), (.mk
  (Option.some 13) (.mv (.tmp 22)) Option.none)]))))))) (.seq (.region [(.mk (Option.some 23) (.mv (.tmp 3)) Option.none), (.mk (Option.some 2) (.mv (.tmp 23)) Option.none)])
  .ret))))) 24 [(.tmp 2)])
def a82 : AFn :=
  (.mk (.seq (.region [(.mk (Option.some 4) (.mv (.const .nilIface)) Option.none)]) (.seq (.seq (.region [(.mk (Option.some 5) (.mv (.tmp 1)) Option.none), (.mk (Option.some 6) (.eq
  (.iface Bool.true) Bool.false (.tmp 5) (.const .nilIface)) Option.none)]) (.cond (.tmp 6) (.seq (.region [(.mk (Option.some 4) (.mv (.const .nilIface)) Option.none)]) .ret)
  .skip)) (.seq (.region [(.mk (Option.some 7) (.mv (.tmp 1)) Option.none), (.mk (Option.some 8) (.build [.nilIface] [(0, (1, (.tmp 7)))]) Option.none), (.mk (Option.some 9) (.mv
  (.tmp 0)) Option.none), (.mk (Option.some 10) (.build [.nilIface, (.int .i64 0)] [(0, (1, (.tmp 8))), (1, (1, (.tmp 9)))]) Option.none), (.mk (Option.some 11) (.box (.tmp 10))
  Option.none), (.mk (Option.some 12) (.mkIface 251 (.tmp 11)) Option.none), (.mk (Option.some 4) (.mv (.tmp 12)) Option.none)]) .ret))) 13 [(.tmp 4)])
def a84 : AFn :=
  (.mk (.seq (.region [(.mk (Option.some 2) (.mv (.const (.slice Option.none 0 0))) Option.none)]) (.seq (.seq (.region [(.mk (Option.some 5) (.mv (.tmp 0)) Option.none), (.mk
  (Option.some 6) (.eq .ptr Bool.false (.tmp 5) (.const (.pointer Option.none))) Option.none)]) (.cond (.tmp 6) (.seq (.region [(.mk (Option.some 2) (.mv (.const (.slice
  Option.none 0 0))) Option.none)]) .ret) .skip)) (.seq (.region [(.mk (Option.some 3) (.mv (.const (.slice Option.none 0 0))) Option.none)]) (.seq (.seq (.region [(.mk
  (Option.some 7) (.mv (.tmp 0)) Option.none), (.mk (Option.some 8) (.nilCheck (.tmp 7)) Option.none), (.mk (Option.some 9) (.fieldAddr 1 (.tmp 8)) Option.none), (.mk (Option.some
  10) (.load 1 Bool.false (.tmp 9)) Option.none), (.mk (Option.some 11) (.range Bool.true (.tmp 10)) Option.none)]) (.block 0 (.loop (.seq (.region [(.mk (Option.some 12) (.next
  Bool.false (.tmp 11)) Option.none), (.mk (Option.some 13) (.extract (.tmp 12) 0) Option.none)]) (.seq (.cond (.tmp 13) .skip (.exit 0)) (.block 1 (.seq (.region [(.mk
  (Option.some 14) (.entry (.tmp 11)) Option.none), (.mk (Option.some 15) (.extract (.tmp 14) 0) Option.none), (.mk (Option.some 4) (.mv (.tmp 15)) Option.none)]) (.region [(.mk
  (Option.some 16) (.mv (.tmp 3)) Option.none), (.mk (Option.some 17) (.mv (.tmp 4)) Option.none), (.mk (Option.some 18) (.buildSlice 1 1 [(.int .i64 0)] [(0, (1, (.tmp 17)))])
  Option.none), (.mk (Option.some 19) (.append Bool.false 1 8 (.tmp 16) (.tmp 18)) Option.none), (.mk (Option.some 3) (.mv (.tmp 19)) Option.none)])))))))) (.seq (.region [(.mk
  (Option.some 20) (.mv (.tmp 3)) Option.none), (.mk (Option.some 21) (.call 172 [(.tmp 20)]) Option.none)]) (.seq (.region [(.mk (Option.some 22) (.mv (.tmp 3)) Option.none), (.mk
  (Option.some 2) (.mv (.tmp 22)) Option.none)]) .ret)))))) 23 [(.tmp 2)])
def a85 : AFn :=
  (.mk (.seq (.region [(.mk (Option.some 2) (.mv (.const (.slice Option.none 0 0))) Option.none)]) (.seq (.seq (.region [(.mk (Option.some 3) (.mv (.tmp 0)) Option.none), (.mk
  (Option.some 4) (.eq .nilSlice Bool.false (.tmp 3) (.const (.slice Option.none 0 0))) Option.none)]) (.cond (.tmp 4) (.seq (.region [(.mk (Option.some 2) (.mv (.const (.slice
  Option.none 0 0))) Option.none)]) .ret) .skip)) (.seq (.region [(.mk (Option.some 5) (.buildSlice 0 1 [] []) Option.none), (.mk (Option.some 6) (.mv (.tmp 0)) Option.none), (.mk
  (Option.some 7) (.append Bool.false 1 1 (.tmp 5) (.tmp 6)) Option.none), (.mk (Option.some 2) (.mv (.tmp 7)) Option.none)]) .ret))) 8 [(.tmp 2)])
def a89 : AFn :=
  (.mk (.seq (.region [(.mk (Option.some 1) (.box (.tmp 0)) Option.none), (.mk (Option.some 2) (.mv (.const (.bool Bool.false))) Option.none)]) (.seq (.region [(.mk (Option.some 3)
  (.load 4 Bool.true (.tmp 1)) Option.none), (.mk (Option.some 4) (.call 173 [(.tmp 3)]) Option.none), (.mk (Option.some 5) (.mv (.tmp 4)) Option.none), (.mk (Option.some 6)
  (.fieldAddr 1 (.tmp 1)) (Option.some (5, Bool.true))), (.mk (Option.some 7) (.load 1 Bool.false (.tmp 6)) (Option.some (5, Bool.true))), (.mk (Option.some 8) (.call 174 [(.tmp
  7)]) (Option.some (5, Bool.true))), (.mk (Option.some 9) (.mv (.tmp 8)) (Option.some (5, Bool.true))), (.mk (Option.some 10) (.fieldAddr 1 (.tmp 1)) (Option.some (9,
  Bool.false))), (.mk (Option.some 11) (.load 1 Bool.false (.tmp 10)) (Option.some (9, Bool.false))), (.mk (Option.some 12) (.call 175 [(.tmp 11)]) (Option.some (9, Bool.false))),
  (.mk (Option.some 13) (.pick (.tmp 9) (.const (.bool Bool.true)) (.tmp 12)) (Option.some (5, Bool.true))), (.mk (Option.some 14) (.pick (.tmp 5) (.tmp 13) (.const (.bool
  Bool.false))) Option.none), (.mk (Option.some 2) (.mv (.tmp 14)) Option.none)]) .ret)) 15 [(.tmp 2)])
def a90 : AFn :=
  (.mk (.seq (.region [(.mk (Option.some 2) (.mv (.const .nilIface)) Option.none)]) (.seq (.seq (.region [(.mk (Option.some 3) (.mv (.tmp 0)) Option.none), (.mk (Option.some 4) (.bin
  .eql (.tmp 3) (.const (.int .i64 0))) Option.none)]) (.cond (.tmp 4) (.seq (.region [(.mk (Option.some 2) (.mv (.const .nilIface)) Option.none)]) .ret) .skip)) (.seq (.region
  [(.mk (Option.some 5) (.mv (.tmp 0)) Option.none), (.mk (Option.some 6) (.build [(.int .i64 0)] [(0, (1, (.tmp 5)))]) Option.none), (.mk (Option.some 7) (.box (.tmp 6))
  Option.none), (.mk (Option.some 8) (.mkIface 229 (.tmp 7)) Option.none), (.mk (Option.some 2) (.mv (.tmp 8)) Option.none)]) .ret))) 9 [(.tmp 2)])
def a92 : AFn :=
  (.mk (.seq (.region [(.mk (Option.some 3) (.box (.tmp 0)) Option.none), (.mk (Option.some 6) (.mv (.const (.int .i64 0))) Option.none), (.mk (Option.some 7) (.mv (.const (.bool
  Bool.false))) Option.none), (.mk (Option.some 8) (.mv (.const (.int .i64 0))) Option.none), (.mk (Option.some 9) (.mv (.const (.int .i64 0))) Option.none)]) (.seq (.seq (.region
  [(.mk (Option.some 10) (.load 4 Bool.true (.tmp 3)) Option.none), (.mk (Option.some 11) (.call 89 [(.tmp 10)]) Option.none), (.mk (Option.some 12) (.un .not (.tmp 11))
  Option.none)]) (.cond (.tmp 12) (.seq (.region [(.mk (Option.some 6) (.mv (.const (.int .i64 0))) Option.none), (.mk (Option.some 7) (.mv (.const (.bool Bool.false)))
  Option.none), (.mk (Option.some 8) (.mv (.const (.int .i64 0))) Option.none), (.mk (Option.some 9) (.mv (.const (.int .i64 2))) Option.none)]) .ret) .skip)) (.seq (.seq (.region
  [(.mk (Option.some 13) (.mv (.tmp 2)) Option.none), (.mk (Option.some 14) (.un .not (.tmp 13)) Option.none)]) (.cond (.tmp 14) (.region [(.mk (Option.some 1) (.mv (.const (.int
  .i64 0))) Option.none)]) .skip)) (.seq (.seq (.region [(.mk (Option.some 15) (.fieldAddr 0 (.tmp 3)) Option.none), (.mk (Option.some 16) (.load 1 Bool.false (.tmp 15))
  Option.none)]) (.block 0 (.seq (.region [(.mk (Option.some 18) (.bin .eql (.tmp 16) (.const (.int .i64 1))) Option.none), (.mk (Option.some 17) (.mv (.tmp 18)) Option.none)])
  (.cond (.tmp 17) (.seq (.region [(.mk (Option.some 19) (.mv (.tmp 1)) Option.none), (.mk (Option.some 20) (.mv (.tmp 2)) Option.none), (.mk (Option.some 21) (.mv (.tmp 1))
  Option.none), (.mk (Option.some 6) (.mv (.tmp 19)) Option.none), (.mk (Option.some 7) (.mv (.tmp 20)) Option.none), (.mk (Option.some 8) (.mv (.tmp 21)) Option.none), (.mk
  (Option.some 9) (.mv (.const (.int .i64 0))) Option.none)]) .ret) (.seq (.region [(.mk (Option.some 23) (.bin .eql (.tmp 16) (.const (.int .i64 2))) Option.none), (.mk
  (Option.some 22) (.mv (.tmp 23)) Option.none)]) (.cond (.tmp 22) (.seq (.draws [((.mk (Option.some 24) (.fieldAddr 2 (.tmp 3)) Option.none), (0, 8)), ((.mk (Option.some 25)
  (.load 1 Bool.false (.tmp 24)) Option.none), (0, 8)), ((.mk (Option.some 26) (.fieldAddr 2 (.tmp 3)) Option.none), (0, 8)), ((.mk (Option.some 27) (.load 1 Bool.false (.tmp 26))
  Option.none), (0, 8)), ((.mk (Option.some 6) (.mv (.tmp 25)) Option.none), (0, 8)), ((.mk (Option.some 7) (.mv (.const (.bool Bool.true))) Option.none), (0, 8)), ((.mk
  (Option.some 8) (.mv (.tmp 27)) Option.none), (0, 8)), ((.mk (Option.some 9) (.mv (.const (.int .i64 0))) Option.none), (0, 8))]) .ret) (.seq (.region [(.mk (Option.some 29)
  (.bin .eql (.tmp 16) (.const (.int .i64 3))) Option.none), (.mk (Option.some 28) (.mv (.tmp 29)) Option.none)]) (.cond (.tmp 28) (.seq (.region [(.mk (Option.some 30) (.mv (.tmp
  1)) Option.none), (.mk (Option.some 6) (.mv (.const (.int .i64 0))) Option.none), (.mk (Option.some 7) (.mv (.const (.bool Bool.false))) Option.none), (.mk (Option.some 8) (.mv
  (.tmp 30)) Option.none), (.mk (Option.some 9) (.mv (.const (.int .i64 0))) Option.none)]) .ret) (.seq (.region [(.mk (Option.some 32) (.bin .eql (.tmp 16) (.const (.int .i64 6)))
  Option.none), (.mk (Option.some 31) (.mv (.tmp 32)) Option.none)]) (.cond (.tmp 31) (.seq (.draws [((.mk (Option.some 33) (.mv (.tmp 1)) Option.none), (0, 12)), ((.mk
  (Option.some 34) (.fieldAddr 2 (.tmp 3)) Option.none), (0, 12)), ((.mk (Option.some 35) (.load 1 Bool.false (.tmp 34)) Option.none), (0, 12)), ((.mk (Option.some 36) (.bin .add
  (.tmp 33) (.tmp 35)) Option.none), (0, 12)), ((.mk (Option.some 37) (.mv (.tmp 1)) Option.none), (0, 12)), ((.mk (Option.some 38) (.fieldAddr 2 (.tmp 3)) Option.none), (0, 12)),
  ((.mk (Option.some 39) (.load 1 Bool.false (.tmp 38)) Option.none), (0, 12)), ((.mk (Option.some 40) (.bin .add (.tmp 37) (.tmp 39)) Option.none), (0, 12)), ((.mk (Option.some 6)
  (.mv (.tmp 36)) Option.none), (0, 12)), ((.mk (Option.some 7) (.mv (.const (.bool Bool.true))) Option.none), (0, 12)), ((.mk (Option.some 8) (.mv (.tmp 40)) Option.none), (0,
  12)), ((.mk (Option.some 9) (.mv (.const (.int .i64 0))) Option.none), (0, 12))]) .ret) .skip)))))))))) (.seq (.region [(.mk (Option.some 41) (.load 4 Bool.true (.tmp 3))
  Option.none), (.mk (Option.some 42) (.mv (.tmp 1)) Option.none), (.mk (Option.some 43) (.mv (.tmp 2)) Option.none), (.mk (Option.some 44) (.call 177 [(.tmp 41), (.tmp 42), (.tmp
  43)]) Option.none), (.mk (Option.some 45) (.extract (.tmp 44) 0) Option.none), (.mk (Option.some 46) (.extract (.tmp 44) 1) Option.none), (.mk (Option.some 47) (.extract (.tmp
  44) 2) Option.none), (.mk (Option.some 48) (.extract (.tmp 44) 3) Option.none), (.mk (Option.some 6) (.mv (.tmp 45)) Option.none), (.mk (Option.some 7) (.mv (.tmp 46))
  Option.none), (.mk (Option.some 8) (.mv (.tmp 47)) Option.none), (.mk (Option.some 9) (.mv (.tmp 48)) Option.none)]) .ret))))) 49 [(.tmp 6), (.tmp 7), (.tmp 8), (.tmp 9)])
def a94 : AFn :=
  (.mk (.seq (.region [(.mk (Option.some 4) (.mv (.const (.bool Bool.false))) Option.none)]) (.seq (.region [(.mk (Option.some 5) (.alloc [(.ptr Option.none)]) Option.none)]) (.seq
  (.seq (.region [(.mk (Option.some 6) (.mv (.tmp 0)) Option.none), (.mk (Option.some 7) (.eq (.iface Bool.true) Bool.false (.tmp 6) (.const .nilIface)) Option.none), (.mk
  (Option.some 8) (.mv (.tmp 7)) Option.none), (.mk (Option.some 9) (.mv (.tmp 0)) (Option.some (8, Bool.false))), (.mk (Option.some 10) (.mkIface 231 (.tmp 5)) (Option.some (8,
  Bool.false))), (.mk (Option.some 11) (.call 153 [(.tmp 9), (.tmp 10)]) (Option.some (8, Bool.false))), (.mk (Option.some 12) (.un .not (.tmp 11)) (Option.some (8, Bool.false))),
  (.mk (Option.some 13) (.pick (.tmp 8) (.const (.bool Bool.true)) (.tmp 12)) Option.none)]) (.cond (.tmp 13) (.seq (.region [(.mk (Option.some 14) (.mv (.tmp 0)) Option.none),
  (.mk (Option.some 15) (.eq (.iface Bool.true) Bool.true (.tmp 14) (.const .nilIface)) Option.none), (.mk (Option.some 16) (.mv (.tmp 15)) Option.none), (.mk (Option.some 17) (.mv
  (.tmp 1)) (Option.some (16, Bool.true))), (.mk (Option.some 18) (.bin .eql (.tmp 17) (.const (.int .i64 2))) (Option.some (16, Bool.true))), (.mk (Option.some 19) (.pick (.tmp
  16) (.tmp 18) (.const (.bool Bool.false))) Option.none), (.mk (Option.some 4) (.mv (.tmp 19)) Option.none)]) .ret) .skip)) (.seq (.region [(.mk (Option.some 20) (.mv (.tmp 0))
  Option.none), (.mk (Option.some 21) (.mv (.tmp 1)) Option.none), (.mk (Option.some 22) (.build [(.int .i64 0)] [(0, (1, (.tmp 21)))]) Option.none), (.mk (Option.some 23) (.box
  (.tmp 22)) Option.none), (.mk (Option.some 24) (.mkIface 229 (.tmp 23)) Option.none), (.mk (Option.some 25) (.call 181 [(.tmp 20), (.tmp 24)]) Option.none), (.mk (Option.some 4)
  (.mv (.tmp 25)) Option.none)]) .ret)))) 26 [(.tmp 4)])
def a96 : AFn :=
  (.mk (.seq (.region [(.mk (Option.some 2) (.mv (.const (.slice Option.none 0 0))) Option.none)]) (.seq (.region [(.mk (Option.some 4) (.mv (.tmp 0)) Option.none), (.mk (Option.some
  5) (.call 183 [(.tmp 4)]) Option.none), (.mk (Option.some 3) (.mv (.tmp 5)) Option.none)]) (.seq (.region [(.mk (Option.some 6) (.mv (.tmp 3)) Option.none), (.mk (Option.some 7)
  (.call 172 [(.tmp 6)]) Option.none)]) (.seq (.region [(.mk (Option.some 8) (.mv (.tmp 3)) Option.none), (.mk (Option.some 2) (.mv (.tmp 8)) Option.none)]) .ret)))) 9 [(.tmp 2)])
def a108 : AFn :=
  (.mk (.seq (.region [(.mk (Option.some 2) (.mv (.const (.pointer Option.none))) Option.none)]) (.seq (.region [(.mk (Option.some 6) (.build [(.slice Option.none 0 0 0 0)] [])
  Option.none), (.mk (Option.some 7) (.box (.tmp 6)) Option.none), (.mk (Option.some 3) (.mv (.tmp 7)) Option.none)]) (.seq (.seq (.region [(.mk (Option.some 8) (.mv (.tmp 0))
  Option.none), (.mk (Option.some 9) (.len (.tmp 8)) Option.none), (.mk (Option.some 10) (.mv (.const (.int .i64 0))) Option.none)]) (.block 0 (.loop (.seq (.region [(.mk
  (Option.some 11) (.bin .lss (.tmp 10) (.tmp 9)) Option.none)]) (.seq (.cond (.tmp 11) .skip (.exit 0)) (.seq (.block 1 (.seq (.region [(.mk (Option.some 12) (.atSlice 2 (.tmp 8)
  (.tmp 10)) Option.none), (.mk (Option.some 13) (.load 2 Bool.true (.tmp 12)) Option.none), (.mk (Option.some 5) (.alloc [(.str []), (.int .i64 0)]) Option.none), (.mk Option.none
  (.store 2 (.tmp 5) (.tmp 13)) Option.none)]) (.seq (.region [(.mk (Option.some 14) (.fieldAddr 0 (.tmp 5)) Option.none), (.mk (Option.some 15) (.load 1 Bool.false (.tmp 14))
  Option.none), (.mk (Option.some 16) (.lenStr (.tmp 15)) Option.none), (.mk (Option.some 17) (.bin .leq (.tmp 16) (.const (.int .i64 16))) Option.none)]) (.cond (.tmp 17) (.region
  [(.mk (Option.some 18) (.mv (.tmp 3)) Option.none), (.mk (Option.some 19) (.fieldAddr 0 (.tmp 5)) Option.none), (.mk (Option.some 20) (.load 1 Bool.false (.tmp 19)) Option.none),
  (.mk (Option.some 21) (.fieldAddr 1 (.tmp 5)) Option.none), (.mk (Option.some 22) (.load 1 Bool.false (.tmp 21)) Option.none), (.mk (Option.some 23) (.call 198 [(.tmp 18), (.tmp
  20), (.tmp 22)]) Option.none)]) .skip)))) (.region [(.mk (Option.some 24) (.bin .add (.tmp 10) (.const (.int .i64 1))) Option.none), (.mk (Option.some 10) (.mv (.tmp 24))
  Option.none)]))))))) (.seq (.region [(.mk (Option.some 25) (.mv (.tmp 3)) Option.none), (.mk (Option.some 2) (.mv (.tmp 25)) Option.none)]) .ret)))) 26 [(.tmp 2)])
def a110 : AFn :=
  (.mk (.seq (.region [(.mk (Option.some 2) (.mv (.const (.slice Option.none 0 0))) Option.none)]) (.seq (.seq (.region [(.mk (Option.some 3) (.mv (.tmp 0)) Option.none), (.mk
  (Option.some 4) (.eq .ptr Bool.false (.tmp 3) (.const (.pointer Option.none))) Option.none)]) (.cond (.tmp 4) (.seq (.region [(.mk (Option.some 2) (.mv (.const (.slice
  Option.none 0 0))) Option.none)]) .ret) .skip)) (.seq (.region [(.mk (Option.some 5) (.mv (.tmp 0)) Option.none), (.mk (Option.some 6) (.nilCheck (.tmp 5)) Option.none), (.mk
  (Option.some 7) (.fieldAddr 0 (.tmp 6)) Option.none), (.mk (Option.some 8) (.load 1 Bool.false (.tmp 7)) Option.none), (.mk (Option.some 9) (.call 202 [(.tmp 8)]) Option.none),
  (.mk (Option.some 2) (.mv (.tmp 9)) Option.none)]) .ret))) 10 [(.tmp 2)])
def a111 : AFn :=
  (.mk (.seq (.region [(.mk (Option.some 2) (.mv (.const .nilIface)) Option.none)]) (.seq (.seq (.region [(.mk (Option.some 5) (.mv (.tmp 0)) Option.none), (.mk (Option.some 6) (.len
  (.tmp 5)) Option.none), (.mk (Option.some 7) (.mv (.const (.int .i64 0))) Option.none)]) (.block 0 (.loop (.seq (.region [(.mk (Option.some 8) (.bin .lss (.tmp 7) (.tmp 6))
  Option.none)]) (.seq (.cond (.tmp 8) .skip (.exit 0)) (.seq (.block 1 (.seq (.region [(.mk (Option.some 9) (.atSlice 1 (.tmp 5) (.tmp 7)) Option.none), (.mk (Option.some 10)
  (.load 1 Bool.false (.tmp 9)) Option.none), (.mk (Option.some 4) (.mv (.tmp 10)) Option.none)]) (.seq (.region [(.mk (Option.some 11) (.mv (.tmp 4)) Option.none), (.mk
  (Option.some 12) (.eq (.iface Bool.true) Bool.true (.tmp 11) (.const .nilIface)) Option.none)]) (.cond (.tmp 12) (.seq (.region [(.mk (Option.some 13) (.mv (.tmp 4))
  Option.none), (.mk (Option.some 2) (.mv (.tmp 13)) Option.none)]) .ret) .skip)))) (.region [(.mk (Option.some 14) (.bin .add (.tmp 7) (.const (.int .i64 1))) Option.none), (.mk
  (Option.some 7) (.mv (.tmp 14)) Option.none)]))))))) (.seq (.region [(.mk (Option.some 2) (.mv (.const .nilIface)) Option.none)]) .ret))) 15 [(.tmp 2)])
def a112 : AFn :=
  (.mk (.seq (.region [(.mk (Option.some 2) (.mv (.const .nilIface)) Option.none)]) (.seq (.region [(.mk (Option.some 6) (.mv (.tmp 0)) Option.none), (.mk (Option.some 7) (.nilCheck
  (.tmp 6)) Option.none), (.mk (Option.some 8) (.fieldAddr 0 (.tmp 7)) Option.none), (.mk (Option.some 9) (.load 1 Bool.false (.tmp 8)) Option.none), (.mk (Option.some 10) (.call
  79 [(.tmp 9)]) Option.none), (.mk (Option.some 3) (.mv (.tmp 10)) Option.none)]) (.seq (.seq (.region [(.mk (Option.some 11) (.mv (.tmp 3)) Option.none), (.mk (Option.some 12)
  (.len (.tmp 11)) Option.none), (.mk (Option.some 13) (.bin .eql (.tmp 12) (.const (.int .i64 0))) Option.none)]) (.cond (.tmp 13) (.seq (.region [(.mk (Option.some 2) (.mv
  (.const .nilIface)) Option.none)]) .ret) .skip)) (.seq (.region [(.mk (Option.some 15) (.mv (.tmp 3)) Option.none), (.mk (Option.some 16) (.call 203 [(.tmp 15), (.const (.int
  .u64 1073741825))]) Option.none), (.mk (Option.some 14) (.mv (.tmp 16)) Option.none), (.mk (Option.some 17) (.extract (.tmp 14) 0) Option.none), (.mk (Option.some 18) (.extract
  (.tmp 14) 1) Option.none), (.mk (Option.some 4) (.alloc [(.int .i64 0), (.slice Option.none 0 0 0 0)]) Option.none), (.mk Option.none (.store 2 (.tmp 4) (.tmp 17)) Option.none),
  (.mk (Option.some 5) (.mv (.tmp 18)) Option.none)]) (.seq (.seq (.region [(.mk (Option.some 19) (.mv (.tmp 5)) Option.none), (.mk (Option.some 20) (.eq (.iface Bool.true)
  Bool.true (.tmp 19) (.const .nilIface)) Option.none)]) (.cond (.tmp 20) (.seq (.region [(.mk (Option.some 21) (.mv (.tmp 5)) Option.none), (.mk (Option.some 2) (.mv (.tmp 21))
  Option.none)]) .ret) .skip)) (.seq (.region [(.mk (Option.some 22) (.mv (.tmp 0)) Option.none), (.mk (Option.some 23) (.fieldAddr 0 (.tmp 4)) Option.none), (.mk (Option.some 24)
  (.load 1 Bool.false (.tmp 23)) Option.none), (.mk (Option.some 25) (.nilCheck (.tmp 22)) Option.none), (.mk (Option.some 26) (.fieldAddr 5 (.tmp 25)) Option.none), (.mk
  Option.none (.store 1 (.tmp 26) (.tmp 24)) Option.none)]) (.seq (.draws [((.mk (Option.some 27) (.mv (.tmp 0)) Option.none), (0, 6)), ((.mk (Option.some 28) (.nilCheck (.tmp 27))
  Option.none), (0, 6)), ((.mk (Option.some 29) (.fieldAddr 1 (.tmp 28)) Option.none), (0, 6)), ((.mk (Option.some 30) (.load 1 Bool.false (.tmp 29)) Option.none), (0, 6)), ((.mk
  (Option.some 31) (.fieldAddr 1 (.tmp 4)) Option.none), (0, 6)), ((.mk (Option.some 32) (.load 1 Bool.false (.tmp 31)) Option.none), (0, 6)), ((.mk (Option.some 33) (.call 152
  [(.tmp 30), (.tmp 32)]) Option.none), (0, 7)), ((.mk (Option.some 34) (.call 90 [(.tmp 33)]) Option.none), (7, 9)), ((.mk (Option.some 2) (.mv (.tmp 34)) Option.none), (8, 9))])
  .ret))))))) 35 [(.tmp 2)])
def a113 : AFn :=
  (.mk (.seq (.region [(.mk (Option.some 2) (.mv (.const .nilIface)) Option.none)]) (.seq (.region [(.mk (Option.some 3) (.mv (.const (.slice Option.none 0 0))) Option.none)]) (.seq
  (.seq (.region [(.mk (Option.some 11) (.mv (.tmp 0)) Option.none), (.mk (Option.some 12) (.nilCheck (.tmp 11)) Option.none), (.mk (Option.some 13) (.fieldAddr 0 (.tmp 12))
  Option.none), (.mk (Option.some 14) (.load 1 Bool.false (.tmp 13)) Option.none), (.mk (Option.some 15) (.call 81 [(.tmp 14)]) Option.none), (.mk (Option.some 16) (.len (.tmp 15))
  Option.none), (.mk (Option.some 17) (.mv (.const (.int .i64 0))) Option.none)]) (.block 0 (.loop (.seq (.region [(.mk (Option.some 18) (.bin .lss (.tmp 17) (.tmp 16))
  Option.none)]) (.seq (.cond (.tmp 18) .skip (.exit 0)) (.seq (.block 1 (.seq (.region [(.mk (Option.some 19) (.mv (.tmp 17)) Option.none), (.mk (Option.some 20) (.atSlice 1 (.tmp
  15) (.tmp 17)) Option.none), (.mk (Option.some 21) (.load 1 Bool.false (.tmp 20)) Option.none), (.mk (Option.some 4) (.mv (.tmp 19)) Option.none), (.mk (Option.some 5) (.mv (.tmp
  21)) Option.none)]) (.seq (.region [(.mk (Option.some 23) (.mv (.tmp 5)) Option.none), (.mk (Option.some 24) (.call 203 [(.tmp 23), (.const (.int .u64 1073741824))])
  Option.none), (.mk (Option.some 22) (.mv (.tmp 24)) Option.none), (.mk (Option.some 25) (.extract (.tmp 22) 0) Option.none), (.mk (Option.some 26) (.extract (.tmp 22) 1)
  Option.none), (.mk (Option.some 6) (.alloc [(.int .i64 0), (.slice Option.none 0 0 0 0)]) Option.none), (.mk Option.none (.store 2 (.tmp 6) (.tmp 25)) Option.none), (.mk
  (Option.some 7) (.mv (.tmp 26)) Option.none)]) (.seq (.seq (.region [(.mk (Option.some 27) (.mv (.tmp 7)) Option.none), (.mk (Option.some 28) (.eq (.iface Bool.true) Bool.true
  (.tmp 27) (.const .nilIface)) Option.none)]) (.cond (.tmp 28) (.seq (.region [(.mk (Option.some 29) (.mv (.tmp 4)) Option.none), (.mk (Option.some 30) (.mv (.tmp 7))
  Option.none), (.mk (Option.some 31) (.call 82 [(.tmp 29), (.tmp 30)]) Option.none), (.mk (Option.some 2) (.mv (.tmp 31)) Option.none)]) .ret) .skip)) (.region [(.mk (Option.some
  32) (.mv (.tmp 3)) Option.none), (.mk (Option.some 33) (.load 2 Bool.true (.tmp 6)) Option.none), (.mk (Option.some 34) (.buildSlice 1 2 [(.int .i64 0), (.slice Option.none 0 0 0
  0)] [(0, (2, (.tmp 33)))]) Option.none), (.mk (Option.some 35) (.append Bool.false 2 32 (.tmp 32) (.tmp 34)) Option.none), (.mk (Option.some 3) (.mv (.tmp 35)) Option.none)])))))
  (.region [(.mk (Option.some 36) (.bin .add (.tmp 17) (.const (.int .i64 1))) Option.none), (.mk (Option.some 17) (.mv (.tmp 36)) Option.none)]))))))) (.seq (.region [(.mk
  (Option.some 37) (.mv (.tmp 3)) Option.none), (.mk (Option.some 38) (.call 204 [(.tmp 37), (.func 205)]) Option.none)]) (.seq (.seq (.region [(.mk (Option.some 39) (.mv (.tmp 3))
  Option.none), (.mk (Option.some 40) (.len (.tmp 39)) Option.none), (.mk (Option.some 41) (.mv (.const (.int .i64 0))) Option.none)]) (.block 2 (.loop (.seq (.region [(.mk
  (Option.some 42) (.bin .lss (.tmp 41) (.tmp 40)) Option.none)]) (.seq (.cond (.tmp 42) .skip (.exit 2)) (.seq (.block 3 (.seq (.region [(.mk (Option.some 43) (.atSlice 2 (.tmp
  39) (.tmp 41)) Option.none), (.mk (Option.some 44) (.load 2 Bool.true (.tmp 43)) Option.none), (.mk (Option.some 9) (.alloc [(.int .i64 0), (.slice Option.none 0 0 0 0)])
  Option.none), (.mk Option.none (.store 2 (.tmp 9) (.tmp 44)) Option.none)]) (.seq (.draws [((.mk (Option.some 45) (.mv (.tmp 0)) Option.none), (0, 11)), ((.mk (Option.some 46)
  (.mv (.tmp 0)) Option.none), (0, 11)), ((.mk (Option.some 47) (.nilCheck (.tmp 46)) Option.none), (0, 11)), ((.mk (Option.some 48) (.fieldAddr 5 (.tmp 47)) Option.none), (0,
  11)), ((.mk (Option.some 49) (.load 1 Bool.false (.tmp 48)) Option.none), (0, 11)), ((.mk (Option.some 50) (.fieldAddr 0 (.tmp 9)) Option.none), (0, 11)), ((.mk (Option.some 51)
  (.load 1 Bool.false (.tmp 50)) Option.none), (0, 11)), ((.mk (Option.some 52) (.bin .add (.tmp 51) (.const (.int .i64 1))) Option.none), (0, 11)), ((.mk (Option.some 53) (.minmax
  Bool.true [(.tmp 49), (.tmp 52)]) Option.none), (0, 11)), ((.mk (Option.some 54) (.nilCheck (.tmp 45)) Option.none), (0, 11)), ((.mk (Option.some 55) (.fieldAddr 5 (.tmp 54))
  Option.none), (0, 11)), ((.mk Option.none (.store 1 (.tmp 55) (.tmp 53)) Option.none), (0, 12))]) (.seq (.draws [((.mk (Option.some 56) (.mv (.tmp 0)) Option.none), (0, 6)),
  ((.mk (Option.some 57) (.nilCheck (.tmp 56)) Option.none), (0, 6)), ((.mk (Option.some 58) (.fieldAddr 1 (.tmp 57)) Option.none), (0, 6)), ((.mk (Option.some 59) (.load 1
  Bool.false (.tmp 58)) Option.none), (0, 6)), ((.mk (Option.some 60) (.fieldAddr 1 (.tmp 9)) Option.none), (0, 6)), ((.mk (Option.some 61) (.load 1 Bool.false (.tmp 60))
  Option.none), (0, 6)), ((.mk (Option.some 62) (.call 152 [(.tmp 59), (.tmp 61)]) Option.none), (0, 7)), ((.mk (Option.some 63) (.call 90 [(.tmp 62)]) Option.none), (7, 9)), ((.mk
  (Option.some 10) (.mv (.tmp 63)) Option.none), (8, 9))]) (.seq (.region [(.mk (Option.some 64) (.mv (.tmp 10)) Option.none), (.mk (Option.some 65) (.eq (.iface Bool.true)
  Bool.true (.tmp 64) (.const .nilIface)) Option.none)]) (.cond (.tmp 65) (.seq (.region [(.mk (Option.some 66) (.fieldAddr 0 (.tmp 9)) Option.none), (.mk (Option.some 67) (.load 1
  Bool.false (.tmp 66)) Option.none), (.mk (Option.some 68) (.mv (.tmp 10)) Option.none), (.mk (Option.some 69) (.call 82 [(.tmp 67), (.tmp 68)]) Option.none), (.mk (Option.some 2)
  (.mv (.tmp 69)) Option.none)]) .ret) .skip)))))) (.region [(.mk (Option.some 70) (.bin .add (.tmp 41) (.const (.int .i64 1))) Option.none), (.mk (Option.some 41) (.mv (.tmp 70))
  Option.none)]))))))) (.seq (.region [(.mk (Option.some 2) (.mv (.const .nilIface)) Option.none)]) .ret)))))) 71 [(.tmp 2)])
def a114 : AFn :=
  (.mk (.seq (.region [(.mk (Option.some 4) (.mv (.const (.pointer Option.none))) Option.none), (.mk (Option.some 5) (.mv (.const .nilIface)) Option.none)]) (.seq (.seq (.region
  [(.mk (Option.some 7) (.mv (.tmp 0)) Option.none), (.mk (Option.some 8) (.eq .ptr Bool.false (.tmp 7) (.const (.pointer Option.none))) Option.none)]) (.cond (.tmp 8) (.seq
  (.region [(.mk (Option.some 9) (.call 90 [(.const (.int .i64 1))]) Option.none), (.mk (Option.some 4) (.mv (.const (.pointer Option.none))) Option.none), (.mk (Option.some 5)
  (.mv (.tmp 9)) Option.none)]) .ret) .skip)) (.seq (.seq (.region [(.mk (Option.some 10) (.mv (.tmp 0)) Option.none), (.mk (Option.some 11) (.nilCheck (.tmp 10)) Option.none),
  (.mk (Option.some 12) (.fieldAddr 3 (.tmp 11)) Option.none), (.mk (Option.some 13) (.load 1 Bool.false (.tmp 12)) Option.none), (.mk (Option.some 14) (.mv (.tmp 1)) Option.none),
  (.mk (Option.some 15) (.lookup (.int .i64) (.ptr Option.none) Bool.false (.tmp 13) (.tmp 14)) Option.none), (.mk (Option.some 6) (.mv (.tmp 15)) Option.none)]) (.seq (.region
  [(.mk (Option.some 16) (.mv (.tmp 6)) Option.none), (.mk (Option.some 17) (.eq .ptr Bool.true (.tmp 16) (.const (.pointer Option.none))) Option.none)]) (.cond (.tmp 17) (.seq
  (.region [(.mk (Option.some 18) (.mv (.tmp 6)) Option.none), (.mk (Option.some 4) (.mv (.tmp 18)) Option.none), (.mk (Option.some 5) (.mv (.const .nilIface)) Option.none)]) .ret)
  .skip))) (.seq (.region [(.mk (Option.some 19) (.mv (.tmp 1)) Option.none), (.mk (Option.some 20) (.call 90 [(.const (.int .i64 3))]) Option.none), (.mk (Option.some 21) (.call
  82 [(.tmp 19), (.tmp 20)]) Option.none), (.mk (Option.some 4) (.mv (.const (.pointer Option.none))) Option.none), (.mk (Option.some 5) (.mv (.tmp 21)) Option.none)]) .ret)))) 22
  [(.tmp 4), (.tmp 5)])
def a115 : AFn :=
  (.mk (.seq (.region [(.mk (Option.some 4) (.mv (.const (.pointer Option.none))) Option.none)]) (.seq (.region [(.mk (Option.some 6) (.mv (.tmp 0)) Option.none), (.mk (Option.some
  7) (.nilCheck (.tmp 6)) Option.none), (.mk (Option.some 8) (.fieldAddr 2 (.tmp 7)) Option.none), (.mk (Option.some 9) (.load 1 Bool.false (.tmp 8)) Option.none), (.mk
  (Option.some 10) (.mv (.tmp 1)) Option.none), (.mk (Option.some 11) (.lookup .str (.ptr Option.none) Bool.false (.tmp 9) (.tmp 10)) Option.none), (.mk (Option.some 5) (.mv (.tmp
  11)) Option.none)]) (.seq (.seq (.region [(.mk (Option.some 12) (.mv (.tmp 5)) Option.none), (.mk (Option.some 13) (.eq .ptr Bool.false (.tmp 12) (.const (.pointer Option.none)))
  Option.none)]) (.cond (.tmp 13) (.seq (.region [(.mk (Option.some 14) (.mv (.tmp 0)) Option.none), (.mk (Option.some 15) (.nilCheck (.tmp 14)) Option.none), (.mk (Option.some 16)
  (.fieldAddr 1 (.tmp 15)) Option.none), (.mk (Option.some 17) (.load 1 Bool.false (.tmp 16)) Option.none), (.mk (Option.some 18) (.mv (.tmp 1)) Option.none), (.mk (Option.some 19)
  (.call 208 [(.tmp 17), (.tmp 18)]) Option.none), (.mk (Option.some 20) (.extract (.tmp 19) 0) Option.none), (.mk (Option.some 21) (.extract (.tmp 19) 1) Option.none), (.mk
  (Option.some 22) (.call 207 [(.tmp 20), (.tmp 21)]) Option.none), (.mk (Option.some 5) (.mv (.tmp 22)) Option.none)]) (.region [(.mk (Option.some 23) (.mv (.tmp 0)) Option.none),
  (.mk (Option.some 24) (.nilCheck (.tmp 23)) Option.none), (.mk (Option.some 25) (.fieldAddr 2 (.tmp 24)) Option.none), (.mk (Option.some 26) (.load 1 Bool.false (.tmp 25))
  Option.none), (.mk (Option.some 27) (.mv (.tmp 1)) Option.none), (.mk (Option.some 28) (.mv (.tmp 5)) Option.none), (.mk Option.none (.mapPut .str (.tmp 26) (.tmp 27) (.tmp 28))
  Option.none)])) .skip)) (.seq (.region [(.mk (Option.some 29) (.mv (.tmp 5)) Option.none), (.mk (Option.some 4) (.mv (.tmp 29)) Option.none)]) .ret)))) 30 [(.tmp 4)])
def a116 : AFn :=
  (.mk (.seq (.region [(.mk (Option.some 4) (.mv (.const (.int .i64 0))) Option.none), (.mk (Option.some 5) (.mv (.const (.bool Bool.false))) Option.none), (.mk (Option.some 6) (.mv
  (.const (.int .i64 0))) Option.none)]) (.seq (.region [(.mk (Option.some 11) (.mv (.tmp 0)) Option.none), (.mk (Option.some 12) (.mv (.tmp 1)) Option.none), (.mk (Option.some 13)
  (.call 209 [(.tmp 11), (.tmp 12)]) Option.none), (.mk (Option.some 10) (.mv (.tmp 13)) Option.none), (.mk (Option.some 14) (.extract (.tmp 10) 0) Option.none), (.mk (Option.some
  15) (.extract (.tmp 10) 1) Option.none), (.mk (Option.some 7) (.mv (.tmp 14)) Option.none), (.mk (Option.some 8) (.mv (.tmp 15)) Option.none)]) (.seq (.seq (.region [(.mk
  (Option.some 16) (.mv (.tmp 8)) Option.none), (.mk (Option.some 17) (.eq (.iface Bool.true) Bool.true (.tmp 16) (.const .nilIface)) Option.none)]) (.cond (.tmp 17) (.seq (.region
  [(.mk (Option.some 18) (.mv (.tmp 8)) Option.none), (.mk (Option.some 19) (.call 67 [(.tmp 18)]) Option.none), (.mk (Option.some 4) (.mv (.const (.int .i64 0))) Option.none),
  (.mk (Option.some 5) (.mv (.const (.bool Bool.false))) Option.none), (.mk (Option.some 6) (.mv (.tmp 19)) Option.none)]) .ret) .skip)) (.seq (.region [(.mk (Option.some 20) (.mv
  (.tmp 0)) Option.none), (.mk (Option.some 21) (.nilCheck (.tmp 20)) Option.none), (.mk (Option.some 22) (.fieldAddr 0 (.tmp 21)) Option.none), (.mk (Option.some 23) (.load 1
  Bool.false (.tmp 22)) Option.none), (.mk (Option.some 24) (.mv (.tmp 7)) Option.none), (.mk (Option.some 25) (.atSlice 5 (.tmp 23) (.tmp 24)) Option.none), (.mk (Option.some 9)
  (.mv (.tmp 25)) Option.none)]) (.seq (.block 0 (.seq (.region [(.mk (Option.some 36) (.mv (.tmp 9)) Option.none), (.mk (Option.some 37) (.nilCheck (.tmp 36)) Option.none), (.mk
  (Option.some 38) (.fieldAddr 0 (.tmp 37)) Option.none), (.mk (Option.some 39) (.load 1 Bool.false (.tmp 38)) Option.none), (.mk (Option.some 40) (.mv (.tmp 1)) Option.none), (.mk
  (Option.some 41) (.bin .eql (.tmp 39) (.tmp 40)) Option.none), (.mk (Option.some 35) (.mv (.tmp 41)) Option.none)]) (.cond (.tmp 35) .skip (.seq (.region [(.mk (Option.some 43)
  (.mv (.tmp 9)) Option.none), (.mk (Option.some 44) (.nilCheck (.tmp 43)) Option.none), (.mk (Option.some 45) (.fieldAddr 4 (.tmp 44)) Option.none), (.mk (Option.some 46) (.load 1
  Bool.false (.tmp 45)) Option.none), (.mk (Option.some 42) (.mv (.tmp 46)) Option.none)]) (.cond (.tmp 42) (.seq (.region [(.mk (Option.some 4) (.mv (.const (.int .i64 0)))
  Option.none), (.mk (Option.some 5) (.mv (.const (.bool Bool.false))) Option.none), (.mk (Option.some 6) (.mv (.const (.int .i64 20))) Option.none)]) .ret) (.region [(.mk
  (Option.some 26) (.mv (.tmp 9)) Option.none), (.mk (Option.some 27) (.mv (.tmp 9)) Option.none), (.mk (Option.some 28) (.nilCheck (.tmp 27)) Option.none), (.mk (Option.some 29)
  (.fieldAddr 3 (.tmp 28)) Option.none), (.mk (Option.some 30) (.load 1 Bool.false (.tmp 29)) Option.none), (.mk (Option.some 31) (.mv (.tmp 1)) Option.none), (.mk (Option.some 32)
  (.minmax Bool.true [(.tmp 30), (.tmp 31)]) Option.none), (.mk (Option.some 33) (.nilCheck (.tmp 26)) Option.none), (.mk (Option.some 34) (.fieldAddr 3 (.tmp 33)) Option.none),
  (.mk Option.none (.store 1 (.tmp 34) (.tmp 32)) Option.none)])))))) (.seq (.draws [((.mk (Option.some 47) (.mv (.tmp 9)) Option.none), (0, 11)), ((.mk (Option.some 48) (.nilCheck
  (.tmp 47)) Option.none), (0, 11)), ((.mk (Option.some 49) (.fieldAddr 1 (.tmp 48)) Option.none), (0, 11)), ((.mk (Option.some 50) (.load 1 Bool.false (.tmp 49)) Option.none), (0,
  11)), ((.mk (Option.some 51) (.mv (.tmp 9)) Option.none), (0, 11)), ((.mk (Option.some 52) (.nilCheck (.tmp 51)) Option.none), (0, 11)), ((.mk (Option.some 53) (.fieldAddr 2
  (.tmp 52)) Option.none), (0, 11)), ((.mk (Option.some 54) (.load 1 Bool.false (.tmp 53)) Option.none), (0, 11)), ((.mk (Option.some 4) (.mv (.tmp 50)) Option.none), (0, 11)),
  ((.mk (Option.some 5) (.mv (.tmp 54)) Option.none), (0, 11)), ((.mk (Option.some 6) (.mv (.const (.int .i64 0))) Option.none), (0, 11))]) .ret)))))) 55 [(.tmp 4), (.tmp 5), (.tmp
  6)])
def a117 : AFn :=
  (.mk (.seq (.region [(.mk (Option.some 10) (.mv (.const .nilIface)) Option.none)]) (.seq (.region [(.mk (Option.some 13) (.mv (.tmp 0)) Option.none), (.mk (Option.some 14) (.mv
  (.tmp 2)) Option.none), (.mk (Option.some 15) (.call 115 [(.tmp 13), (.tmp 14)]) Option.none), (.mk (Option.some 11) (.mv (.tmp 15)) Option.none)]) (.seq (.seq (.region [(.mk
  (Option.some 16) (.mv (.tmp 4)) Option.none), (.mk (Option.some 17) (.mv (.tmp 16)) Option.none), (.mk (Option.some 18) (.mv (.tmp 11)) (Option.some (17, Bool.true))), (.mk
  (Option.some 19) (.call 133 [(.tmp 18)]) (Option.some (17, Bool.true))), (.mk (Option.some 20) (.call 210 [(.tmp 19)]) (Option.some (17, Bool.true))), (.mk (Option.some 21) (.un
  .not (.tmp 20)) (Option.some (17, Bool.true))), (.mk (Option.some 22) (.pick (.tmp 17) (.tmp 21) (.const (.bool Bool.false))) Option.none), (.mk (Option.some 23) (.mv (.tmp 22))
  Option.none), (.mk (Option.some 24) (.mv (.tmp 0)) (Option.some (23, Bool.true))), (.mk (Option.some 25) (.call 211 [(.tmp 24)]) (Option.some (23, Bool.true))), (.mk (Option.some
  26) (.len (.tmp 25)) (Option.some (23, Bool.true))), (.mk (Option.some 27) (.bin .geq (.tmp 26) (.const (.int .i64 256))) (Option.some (23, Bool.true))), (.mk (Option.some 28)
  (.pick (.tmp 23) (.tmp 27) (.const (.bool Bool.false))) Option.none)]) (.cond (.tmp 28) (.seq (.region [(.mk (Option.some 29) (.call 90 [(.const (.int .i64 5))]) Option.none),
  (.mk (Option.some 30) (.call 150 [(.const (.int .i64 256)), (.const (.int .i64 257)), (.tmp 29)]) Option.none), (.mk (Option.some 10) (.mv (.tmp 30)) Option.none)]) .ret) .skip))
  (.seq (.region [(.mk (Option.some 31) (.mv (.tmp 2)) Option.none), (.mk (Option.some 32) (.mv (.tmp 11)) Option.none), (.mk (Option.some 33) (.mv (.tmp 1)) Option.none), (.mk
  (Option.some 34) (.mv (.tmp 3)) Option.none), (.mk (Option.some 35) (.mv (.tmp 4)) Option.none), (.mk (Option.some 36) (.call 212 [(.tmp 32), (.tmp 33), (.tmp 34), (.tmp 35)])
  Option.none), (.mk (Option.some 37) (.call 90 [(.tmp 36)]) Option.none), (.mk (Option.some 38) (.call 151 [(.tmp 31), (.tmp 37)]) Option.none), (.mk (Option.some 12) (.mv (.tmp
  38)) Option.none)]) (.seq (.seq (.region [(.mk (Option.some 39) (.mv (.tmp 12)) Option.none), (.mk (Option.some 40) (.call 94 [(.tmp 39), (.const (.int .i64 22))]) Option.none)])
  (.cond (.tmp 40) (.seq (.region [(.mk (Option.some 41) (.mv (.tmp 0)) Option.none), (.mk (Option.some 42) (.mv (.tmp 1)) Option.none), (.mk (Option.some 43) (.call 123 [(.tmp
  41), (.tmp 42)]) Option.none)]) (.region [(.mk (Option.some 44) (.mv (.tmp 0)) Option.none), (.mk (Option.some 45) (.call 124 [(.tmp 44)]) Option.none)])) .skip)) (.seq (.region
  [(.mk (Option.some 46) (.mv (.tmp 12)) Option.none), (.mk (Option.some 10) (.mv (.tmp 46)) Option.none)]) .ret)))))) 47 [(.tmp 10)])
def a118 : AFn :=
  (.mk (.seq (.region [(.mk (Option.some 4) (.mv (.const (.bool Bool.false))) Option.none)]) (.seq (.region [(.mk (Option.some 5) (.mv (.tmp 0)) Option.none), (.mk (Option.some 6)
  (.mv (.tmp 1)) Option.none), (.mk (Option.some 7) (.call 213 [(.tmp 5), (.tmp 6)]) Option.none), (.mk (Option.some 8) (.bin .geq (.tmp 7) (.const (.int .i64 0))) Option.none),
  (.mk (Option.some 4) (.mv (.tmp 8)) Option.none)]) .ret)) 9 [(.tmp 4)])
def a119 : AFn :=
  (.mk (.seq (.region [(.mk (Option.some 2) (.mv (.const (.slice Option.none 0 0))) Option.none)]) (.seq (.region [(.mk (Option.some 3) (.mv (.const (.slice Option.none 0 0)))
  Option.none)]) (.seq (.seq (.region [(.mk (Option.some 6) (.mv (.tmp 0)) Option.none), (.mk (Option.some 7) (.len (.tmp 6)) Option.none), (.mk (Option.some 8) (.mv (.const (.int
  .i64 0))) Option.none)]) (.block 0 (.loop (.seq (.region [(.mk (Option.some 9) (.bin .lss (.tmp 8) (.tmp 7)) Option.none)]) (.seq (.cond (.tmp 9) .skip (.exit 0)) (.seq (.block 1
  (.seq (.region [(.mk (Option.some 10) (.atSlice 1 (.tmp 6) (.tmp 8)) Option.none), (.mk (Option.some 11) (.load 1 Bool.false (.tmp 10)) Option.none), (.mk (Option.some 5) (.mv
  (.tmp 11)) Option.none)]) (.region [(.mk (Option.some 12) (.mv (.tmp 3)) Option.none), (.mk (Option.some 13) (.mv (.tmp 5)) Option.none), (.mk (Option.some 14) (.append
  Bool.false 1 1 (.tmp 12) (.tmp 13)) Option.none), (.mk (Option.some 3) (.mv (.tmp 14)) Option.none)]))) (.region [(.mk (Option.some 15) (.bin .add (.tmp 8) (.const (.int .i64
  1))) Option.none), (.mk (Option.some 8) (.mv (.tmp 15)) Option.none)]))))))) (.seq (.region [(.mk (Option.some 16) (.mv (.tmp 3)) Option.none), (.mk (Option.some 2) (.mv (.tmp
  16)) Option.none)]) .ret)))) 17 [(.tmp 2)])
def a120 : AFn :=
  (.mk (.seq (.region [(.mk (Option.some 2) (.mv (.const (.slice Option.none 0 0))) Option.none)]) (.seq (.region [(.mk (Option.some 3) (.alloc [(.int .u8 0), (.int .u8 0), (.int .u8
  0), (.int .u8 0), (.int .u8 0), (.int .u8 0), (.int .u8 0), (.int .u8 0), (.int .u8 0)]) Option.none)]) (.seq (.region [(.mk (Option.some 4) (.mv (.const (.int .i64 0)))
  Option.none)]) (.seq (.seq (.region [(.mk (Option.some 6) (.mv (.tmp 0)) Option.none), (.mk (Option.some 5) (.mv (.tmp 6)) Option.none)]) (.block 0 (.loop (.seq (.seq (.region
  [(.mk (Option.some 7) (.mv (.tmp 5)) Option.none), (.mk (Option.some 8) (.bin .gtr (.tmp 7) (.const (.int .u64 0))) Option.none)]) (.cond (.tmp 8) .skip (.exit 0))) (.seq (.block
  1 (.seq (.region [(.mk (Option.some 11) (.mv (.tmp 4)) Option.none), (.mk (Option.some 12) (.bin .add (.tmp 11) (.const (.int .i64 1))) Option.none), (.mk (Option.some 4) (.mv
  (.tmp 12)) Option.none)]) (.region [(.mk (Option.some 13) (.mv (.tmp 4)) Option.none), (.mk (Option.some 14) (.bin .sub (.const (.int .i64 9)) (.tmp 13)) Option.none), (.mk
  (Option.some 15) (.mv (.tmp 5)) Option.none), (.mk (Option.some 16) (.conv .u8 (.tmp 15)) Option.none), (.mk (Option.some 17) (.atArray 9 1 (.tmp 3) (.tmp 14)) Option.none), (.mk
  Option.none (.store 1 (.tmp 17) (.tmp 16)) Option.none)]))) (.region [(.mk (Option.some 9) (.mv (.tmp 5)) Option.none), (.mk (Option.some 10) (.bin .shr (.tmp 9) (.const (.int
  .u64 8))) Option.none), (.mk (Option.some 5) (.mv (.tmp 10)) Option.none)])))))) (.seq (.region [(.mk (Option.some 18) (.mv (.tmp 4)) Option.none), (.mk (Option.some 19) (.bin
  .sub (.const (.int .i64 8)) (.tmp 18)) Option.none), (.mk (Option.some 20) (.mv (.tmp 4)) Option.none), (.mk (Option.some 21) (.conv .u8 (.tmp 20)) Option.none), (.mk
  (Option.some 22) (.atArray 9 1 (.tmp 3) (.tmp 19)) Option.none), (.mk Option.none (.store 1 (.tmp 22) (.tmp 21)) Option.none)]) (.seq (.region [(.mk (Option.some 23) (.buildSlice
  0 1 [] []) Option.none), (.mk (Option.some 24) (.mv (.tmp 4)) Option.none), (.mk (Option.some 25) (.bin .sub (.const (.int .i64 8)) (.tmp 24)) Option.none), (.mk (Option.some 26)
  (.cutArray 9 1 (.tmp 3) (Option.some (.tmp 25)) Option.none Option.none) Option.none), (.mk (Option.some 27) (.append Bool.false 1 1 (.tmp 23) (.tmp 26)) Option.none), (.mk
  (Option.some 2) (.mv (.tmp 27)) Option.none)]) .ret)))))) 28 [(.tmp 2)])
def a121 : AFn :=
  (.mk (.seq (.region [(.mk (Option.some 2) (.mv (.const (.slice Option.none 0 0))) Option.none)]) (.seq (.region [(.mk (Option.some 6) (.mv (.tmp 0)) Option.none), (.mk (Option.some
  7) (.len (.tmp 6)) Option.none), (.mk (Option.some 8) (.conv .u64 (.tmp 7)) Option.none), (.mk (Option.some 9) (.call 120 [(.tmp 8)]) Option.none), (.mk (Option.some 3) (.mv
  (.tmp 9)) Option.none)]) (.seq (.seq (.region [(.mk (Option.some 10) (.mv (.tmp 0)) Option.none), (.mk (Option.some 11) (.len (.tmp 10)) Option.none), (.mk (Option.some 12) (.mv
  (.const (.int .i64 0))) Option.none)]) (.block 0 (.loop (.seq (.region [(.mk (Option.some 13) (.bin .lss (.tmp 12) (.tmp 11)) Option.none)]) (.seq (.cond (.tmp 13) .skip (.exit
  0)) (.seq (.block 1 (.seq (.region [(.mk (Option.some 14) (.atSlice 3 (.tmp 10) (.tmp 12)) Option.none), (.mk (Option.some 15) (.load 3 Bool.true (.tmp 14)) Option.none), (.mk
  (Option.some 5) (.alloc [(.str []), (.int .i64 0), (.bool Bool.false)]) Option.none), (.mk Option.none (.store 3 (.tmp 5) (.tmp 15)) Option.none)]) (.seq (.draws [((.mk
  (Option.some 16) (.mv (.tmp 3)) Option.none), (0, 9)), ((.mk (Option.some 17) (.fieldAddr 0 (.tmp 5)) Option.none), (0, 3)), ((.mk (Option.some 18) (.load 1 Bool.false (.tmp 17))
  Option.none), (0, 3)), ((.mk (Option.some 19) (.call 214 [(.tmp 18)]) Option.none), (0, 6)), ((.mk (Option.some 20) (.fieldAddr 2 (.tmp 5)) Option.none), (0, 6)), ((.mk
  (Option.some 21) (.load 1 Bool.false (.tmp 20)) Option.none), (0, 6)), ((.mk (Option.some 22) (.call 215 [(.tmp 21)]) Option.none), (4, 7)), ((.mk (Option.some 23) (.buildSlice 2
  1 [(.slice Option.none 0 0 0 0), (.slice Option.none 0 0 0 0)] [(0, (1, (.tmp 19))), (1, (1, (.tmp 22)))]) Option.none), (7, 8)), ((.mk (Option.some 24) (.call 119 [(.tmp 23)])
  Option.none), (8, 9)), ((.mk (Option.some 25) (.append Bool.false 1 1 (.tmp 16) (.tmp 24)) Option.none), (9, 11)), ((.mk (Option.some 3) (.mv (.tmp 25)) Option.none), (10, 11))])
  (.seq (.region [(.mk (Option.some 26) (.fieldAddr 2 (.tmp 5)) Option.none), (.mk (Option.some 27) (.load 1 Bool.false (.tmp 26)) Option.none)]) (.cond (.tmp 27) (.region [(.mk
  (Option.some 28) (.mv (.tmp 3)) Option.none), (.mk (Option.some 29) (.fieldAddr 1 (.tmp 5)) Option.none), (.mk (Option.some 30) (.load 1 Bool.false (.tmp 29)) Option.none), (.mk
  (Option.some 31) (.call 216 [(.tmp 30)]) Option.none), (.mk (Option.some 32) (.append Bool.false 1 1 (.tmp 28) (.tmp 31)) Option.none), (.mk (Option.some 3) (.mv (.tmp 32))
  Option.none)]) .skip))))) (.region [(.mk (Option.some 33) (.bin .add (.tmp 12) (.const (.int .i64 1))) Option.none), (.mk (Option.some 12) (.mv (.tmp 33)) Option.none)])))))))
  (.seq (.region [(.mk (Option.some 34) (.mv (.tmp 3)) Option.none), (.mk (Option.some 2) (.mv (.tmp 34)) Option.none)]) .ret)))) 35 [(.tmp 2)])
def a122 : AFn :=
  (.mk (.seq (.region [(.mk (Option.some 4) (.mv (.const (.slice Option.none 0 0))) Option.none)]) (.seq (.region [(.mk (Option.some 11) (.mv (.tmp 0)) Option.none), (.mk
  (Option.some 12) (.nilCheck (.tmp 11)) Option.none), (.mk (Option.some 13) (.fieldAddr 3 (.tmp 12)) Option.none), (.mk (Option.some 14) (.load 1 Bool.false (.tmp 13))
  Option.none), (.mk (Option.some 15) (.mv (.tmp 1)) Option.none), (.mk (Option.some 16) (.lookup (.int .i64) (.ptr Option.none) Bool.false (.tmp 14) (.tmp 15)) Option.none), (.mk
  (Option.some 17) (.nilCheck (.tmp 16)) Option.none), (.mk (Option.some 18) (.fieldAddr 0 (.tmp 17)) Option.none), (.mk (Option.some 19) (.load 1 Bool.false (.tmp 18))
  Option.none), (.mk (Option.some 20) (.call 217 [(.tmp 19)]) Option.none), (.mk (Option.some 21) (.call 156 [(.tmp 20)]) Option.none), (.mk (Option.some 5) (.mv (.tmp 21))
  Option.none)]) (.seq (.region [(.mk (Option.some 6) (.mv (.const (.slice Option.none 0 0))) Option.none)]) (.seq (.seq (.region [(.mk (Option.some 22) (.mv (.tmp 5))
  Option.none), (.mk (Option.some 23) (.len (.tmp 22)) Option.none), (.mk (Option.some 24) (.mv (.const (.int .i64 0))) Option.none)]) (.block 0 (.loop (.seq (.region [(.mk
  (Option.some 25) (.bin .lss (.tmp 24) (.tmp 23)) Option.none)]) (.seq (.cond (.tmp 25) .skip (.exit 0)) (.seq (.block 1 (.seq (.region [(.mk (Option.some 26) (.atSlice 1 (.tmp
  22) (.tmp 24)) Option.none), (.mk (Option.some 27) (.load 1 Bool.false (.tmp 26)) Option.none), (.mk (Option.some 8) (.mv (.tmp 27)) Option.none)]) (.seq (.region [(.mk
  (Option.some 28) (.mv (.tmp 0)) Option.none), (.mk (Option.some 29) (.nilCheck (.tmp 28)) Option.none), (.mk (Option.some 30) (.fieldAddr 2 (.tmp 29)) Option.none), (.mk
  (Option.some 31) (.load 1 Bool.false (.tmp 30)) Option.none), (.mk (Option.some 32) (.mv (.tmp 8)) Option.none), (.mk (Option.some 33) (.lookup .str (.ptr Option.none) Bool.false
  (.tmp 31) (.tmp 32)) Option.none), (.mk (Option.some 34) (.call 133 [(.tmp 33)]) Option.none), (.mk (Option.some 35) (.len (.tmp 34)) Option.none), (.mk (Option.some 36) (.mv
  (.const (.int .i64 0))) Option.none)]) (.block 2 (.loop (.seq (.region [(.mk (Option.some 37) (.bin .lss (.tmp 36) (.tmp 35)) Option.none)]) (.seq (.cond (.tmp 37) .skip (.exit
  2)) (.seq (.block 3 (.seq (.region [(.mk (Option.some 38) (.atSlice 5 (.tmp 34) (.tmp 36)) Option.none), (.mk (Option.some 39) (.load 5 Bool.true (.tmp 38)) Option.none), (.mk
  (Option.some 10) (.alloc [(.int .i64 0), (.int .i64 0), (.bool Bool.false), (.int .i64 0), (.bool Bool.false)]) Option.none), (.mk Option.none (.store 5 (.tmp 10) (.tmp 39))
  Option.none)]) (.seq (.region [(.mk (Option.some 40) (.fieldAddr 0 (.tmp 10)) Option.none), (.mk (Option.some 41) (.load 1 Bool.false (.tmp 40)) Option.none), (.mk (Option.some
  42) (.mv (.tmp 1)) Option.none), (.mk (Option.some 43) (.bin .eql (.tmp 41) (.tmp 42)) Option.none)]) (.cond (.tmp 43) (.region [(.mk (Option.some 44) (.mv (.tmp 6))
  Option.none), (.mk (Option.some 45) (.mv (.tmp 8)) Option.none), (.mk (Option.some 46) (.fieldAddr 1 (.tmp 10)) Option.none), (.mk (Option.some 47) (.load 1 Bool.false (.tmp 46))
  Option.none), (.mk (Option.some 48) (.fieldAddr 2 (.tmp 10)) Option.none), (.mk (Option.some 49) (.load 1 Bool.false (.tmp 48)) Option.none), (.mk (Option.some 50) (.build [(.str
  []), (.int .i64 0), (.bool Bool.false)] [(0, (1, (.tmp 45))), (1, (1, (.tmp 47))), (2, (1, (.tmp 49)))]) Option.none), (.mk (Option.some 51) (.buildSlice 1 3 [(.str []), (.int
  .i64 0), (.bool Bool.false)] [(0, (3, (.tmp 50)))]) Option.none), (.mk (Option.some 52) (.append Bool.false 3 32 (.tmp 44) (.tmp 51)) Option.none), (.mk (Option.some 6) (.mv
  (.tmp 52)) Option.none)]) .skip)))) (.region [(.mk (Option.some 53) (.bin .add (.tmp 36) (.const (.int .i64 1))) Option.none), (.mk (Option.some 36) (.mv (.tmp 53))
  Option.none)]))))))))) (.region [(.mk (Option.some 54) (.bin .add (.tmp 24) (.const (.int .i64 1))) Option.none), (.mk (Option.some 24) (.mv (.tmp 54)) Option.none)]))))))) (.seq
  (.region [(.mk (Option.some 55) (.mv (.tmp 6)) Option.none), (.mk (Option.some 4) (.mv (.tmp 55)) Option.none)]) .ret))))) 56 [(.tmp 4)])
def a123 : AFn :=
  (.mk (.seq (.seq (.region [(.mk (Option.some 6) (.mv (.tmp 0)) Option.none), (.mk (Option.some 7) (.nilCheck (.tmp 6)) Option.none), (.mk (Option.some 8) (.fieldAddr 3 (.tmp 7))
  Option.none), (.mk (Option.some 9) (.load 1 Bool.false (.tmp 8)) Option.none), (.mk (Option.some 10) (.mv (.tmp 1)) Option.none), (.mk (Option.some 11) (.lookup (.int .i64) (.ptr
  Option.none) Bool.false (.tmp 9) (.tmp 10)) Option.none), (.mk (Option.some 12) (.nilCheck (.tmp 11)) Option.none), (.mk (Option.some 13) (.fieldAddr 0 (.tmp 12)) Option.none),
  (.mk (Option.some 14) (.load 1 Bool.false (.tmp 13)) Option.none), (.mk (Option.some 15) (.len (.tmp 14)) Option.none), (.mk (Option.some 16) (.mv (.const (.int .i64 0)))
  Option.none)]) (.block 0 (.loop (.seq (.region [(.mk (Option.some 17) (.bin .lss (.tmp 16) (.tmp 15)) Option.none)]) (.seq (.cond (.tmp 17) .skip (.exit 0)) (.seq (.block 1 (.seq
  (.region [(.mk (Option.some 18) (.atSlice 1 (.tmp 14) (.tmp 16)) Option.none), (.mk (Option.some 19) (.load 1 Bool.false (.tmp 18)) Option.none), (.mk (Option.some 5) (.mv (.tmp
  19)) Option.none)]) (.region [(.mk (Option.some 20) (.mv (.tmp 0)) Option.none), (.mk (Option.some 21) (.nilCheck (.tmp 20)) Option.none), (.mk (Option.some 22) (.fieldAddr 2
  (.tmp 21)) Option.none), (.mk (Option.some 23) (.load 1 Bool.false (.tmp 22)) Option.none), (.mk (Option.some 24) (.mv (.tmp 5)) Option.none), (.mk (Option.some 25) (.lookup .str
  (.ptr Option.none) Bool.false (.tmp 23) (.tmp 24)) Option.none), (.mk (Option.some 26) (.mv (.tmp 1)) Option.none), (.mk (Option.some 27) (.call 218 [(.tmp 25), (.tmp 26)])
  Option.none)]))) (.region [(.mk (Option.some 28) (.bin .add (.tmp 16) (.const (.int .i64 1))) Option.none), (.mk (Option.some 16) (.mv (.tmp 28)) Option.none)]))))))) (.region
  [(.mk (Option.some 29) (.mv (.tmp 0)) Option.none), (.mk (Option.some 30) (.nilCheck (.tmp 29)) Option.none), (.mk (Option.some 31) (.fieldAddr 3 (.tmp 30)) Option.none), (.mk
  (Option.some 32) (.load 1 Bool.false (.tmp 31)) Option.none), (.mk (Option.some 33) (.mv (.tmp 1)) Option.none), (.mk Option.none (.mapDel (.int .i64) (.tmp 32) (.tmp 33))
  Option.none)])) 34 [])
def a124 : AFn :=
  (.mk (.seq (.region [(.mk (Option.some 7) (.mv (.tmp 0)) Option.none), (.mk (Option.some 8) (.nilCheck (.tmp 7)) Option.none), (.mk (Option.some 9) (.fieldAddr 5 (.tmp 8))
  Option.none), (.mk (Option.some 10) (.load 1 Bool.false (.tmp 9)) Option.none), (.mk (Option.some 2) (.mv (.tmp 10)) Option.none)]) (.seq (.seq (.region [(.mk (Option.some 11)
  (.mv (.tmp 0)) Option.none), (.mk (Option.some 12) (.nilCheck (.tmp 11)) Option.none), (.mk (Option.some 13) (.fieldAddr 3 (.tmp 12)) Option.none), (.mk (Option.some 14) (.load 1
  Bool.false (.tmp 13)) Option.none), (.mk (Option.some 15) (.range Bool.true (.tmp 14)) Option.none)]) (.block 0 (.loop (.seq (.region [(.mk (Option.some 16) (.next Bool.false
  (.tmp 15)) Option.none), (.mk (Option.some 17) (.extract (.tmp 16) 0) Option.none)]) (.seq (.cond (.tmp 17) .skip (.exit 0)) (.block 1 (.seq (.region [(.mk (Option.some 18)
  (.entry (.tmp 15)) Option.none), (.mk (Option.some 19) (.extract (.tmp 18) 0) Option.none), (.mk (Option.some 3) (.mv (.tmp 19)) Option.none)]) (.region [(.mk (Option.some 20)
  (.mv (.tmp 2)) Option.none), (.mk (Option.some 21) (.mv (.tmp 3)) Option.none), (.mk (Option.some 22) (.minmax Bool.false [(.tmp 20), (.tmp 21)]) Option.none), (.mk (Option.some
  2) (.mv (.tmp 22)) Option.none)])))))))) (.seq (.region [(.mk (Option.some 23) (.mv (.tmp 0)) Option.none), (.mk (Option.some 24) (.nilCheck (.tmp 23)) Option.none), (.mk
  (Option.some 25) (.fieldAddr 2 (.tmp 24)) Option.none), (.mk (Option.some 26) (.load 1 Bool.false (.tmp 25)) Option.none), (.mk (Option.some 27) (.range Bool.true (.tmp 26))
  Option.none)]) (.block 2 (.loop (.seq (.region [(.mk (Option.some 28) (.next Bool.false (.tmp 27)) Option.none), (.mk (Option.some 29) (.extract (.tmp 28) 0) Option.none)]) (.seq
  (.cond (.tmp 29) .skip (.exit 2)) (.block 3 (.seq (.region [(.mk (Option.some 30) (.entry (.tmp 27)) Option.none), (.mk (Option.some 31) (.extract (.tmp 30) 0) Option.none), (.mk
  (Option.some 32) (.extract (.tmp 30) 1) Option.none), (.mk (Option.some 4) (.mv (.tmp 31)) Option.none), (.mk (Option.some 5) (.mv (.tmp 32)) Option.none)]) (.seq (.region [(.mk
  (Option.some 33) (.mv (.tmp 5)) Option.none), (.mk (Option.some 34) (.mv (.tmp 2)) Option.none), (.mk (Option.some 35) (.call 219 [(.tmp 33), (.tmp 34)]) Option.none)]) (.seq
  (.region [(.mk (Option.some 36) (.mv (.tmp 5)) Option.none), (.mk (Option.some 37) (.call 133 [(.tmp 36)]) Option.none), (.mk (Option.some 6) (.mv (.tmp 37)) Option.none)]) (.seq
  (.region [(.mk (Option.some 38) (.mv (.tmp 6)) Option.none), (.mk (Option.some 39) (.len (.tmp 38)) Option.none), (.mk (Option.some 40) (.bin .eql (.tmp 39) (.const (.int .i64
  1))) Option.none), (.mk (Option.some 41) (.mv (.tmp 40)) Option.none), (.mk (Option.some 42) (.mv (.tmp 6)) (Option.some (41, Bool.true))), (.mk (Option.some 43) (.atSlice 5
  (.tmp 42) (.const (.int .i64 0))) (Option.some (41, Bool.true))), (.mk (Option.some 44) (.fieldAddr 2 (.tmp 43)) (Option.some (41, Bool.true))), (.mk (Option.some 45) (.load 1
  Bool.false (.tmp 44)) (Option.some (41, Bool.true))), (.mk (Option.some 46) (.un .not (.tmp 45)) (Option.some (41, Bool.true))), (.mk (Option.some 47) (.pick (.tmp 41) (.tmp 46)
  (.const (.bool Bool.false))) Option.none), (.mk (Option.some 48) (.mv (.tmp 47)) Option.none), (.mk (Option.some 49) (.mv (.tmp 6)) (Option.some (48, Bool.true))), (.mk
  (Option.some 50) (.atSlice 5 (.tmp 49) (.const (.int .i64 0))) (Option.some (48, Bool.true))), (.mk (Option.some 51) (.fieldAddr 3 (.tmp 50)) (Option.some (48, Bool.true))), (.mk
  (Option.some 52) (.load 1 Bool.false (.tmp 51)) (Option.some (48, Bool.true))), (.mk (Option.some 53) (.mv (.tmp 2)) (Option.some (48, Bool.true))), (.mk (Option.some 54) (.bin
  .lss (.tmp 52) (.tmp 53)) (Option.some (48, Bool.true))), (.mk (Option.some 55) (.pick (.tmp 48) (.tmp 54) (.const (.bool Bool.false))) Option.none)]) (.cond (.tmp 55) (.seq
  (.region [(.mk (Option.some 56) (.mv (.tmp 0)) Option.none), (.mk (Option.some 57) (.nilCheck (.tmp 56)) Option.none), (.mk (Option.some 58) (.fieldAddr 1 (.tmp 57))
  Option.none), (.mk (Option.some 59) (.load 1 Bool.false (.tmp 58)) Option.none), (.mk (Option.some 60) (.mv (.tmp 4)) Option.none), (.mk (Option.some 61) (.build [(.str []),
  (.int .i64 0), (.bool Bool.false)] [(0, (1, (.tmp 60)))]) Option.none), (.mk (Option.some 62) (.buildSlice 1 3 [(.str []), (.int .i64 0), (.bool Bool.false)] [(0, (3, (.tmp
  61)))]) Option.none), (.mk (Option.some 63) (.call 152 [(.tmp 59), (.tmp 62)]) Option.none)]) (.region [(.mk (Option.some 64) (.mv (.tmp 0)) Option.none), (.mk (Option.some 65)
  (.nilCheck (.tmp 64)) Option.none), (.mk (Option.some 66) (.fieldAddr 2 (.tmp 65)) Option.none), (.mk (Option.some 67) (.load 1 Bool.false (.tmp 66)) Option.none), (.mk
  (Option.some 68) (.mv (.tmp 4)) Option.none), (.mk Option.none (.mapDel .str (.tmp 67) (.tmp 68)) Option.none)])) .skip))))))))))))) 69 [])
def a125 : AFn :=
  (.mk (.seq (.region [(.mk (Option.some 4) (.mv (.const (.bool Bool.false))) Option.none)]) (.seq (.region [(.mk (Option.some 6) (.mv (.tmp 0)) Option.none), (.mk (Option.some 7)
  (.mv (.tmp 1)) Option.none), (.mk (Option.some 8) (.call 220 [(.tmp 6), (.tmp 7)]) Option.none), (.mk (Option.some 5) (.mv (.tmp 8)) Option.none)]) (.seq (.seq (.region [(.mk
  (Option.some 9) (.mv (.tmp 5)) Option.none), (.mk (Option.some 10) (.bin .lss (.tmp 9) (.const (.int .i64 0))) Option.none)]) (.cond (.tmp 10) (.seq (.region [(.mk (Option.some
  4) (.mv (.const (.bool Bool.false))) Option.none)]) .ret) .skip)) (.seq (.region [(.mk (Option.some 11) (.mv (.tmp 0)) Option.none), (.mk (Option.some 12) (.nilCheck (.tmp 11))
  Option.none), (.mk (Option.some 13) (.fieldAddr 0 (.tmp 12)) Option.none), (.mk (Option.some 14) (.load 1 Bool.false (.tmp 13)) Option.none), (.mk (Option.some 15) (.mv (.tmp 5))
  Option.none), (.mk (Option.some 16) (.atSlice 5 (.tmp 14) (.tmp 15)) Option.none), (.mk (Option.some 17) (.fieldAddr 4 (.tmp 16)) Option.none), (.mk Option.none (.store 1 (.tmp
  17) (.const (.bool Bool.false))) Option.none)]) (.seq (.region [(.mk (Option.some 4) (.mv (.const (.bool Bool.true))) Option.none)]) .ret))))) 18 [(.tmp 4)])
def a127 : AFn :=
  (.mk (.seq (.region [(.mk (Option.some 2) (.alloc [(.int .i64 0)]) Option.none), (.mk (Option.some 3) (.alloc [(.bool Bool.false)]) Option.none)]) (.seq (.seq (.region [(.mk
  (Option.some 6) (.mv (.tmp 0)) Option.none), (.mk (Option.some 7) (.eq .ptr Bool.false (.tmp 6) (.const (.pointer Option.none))) Option.none)]) (.cond (.tmp 7) (.seq (.region
  [(.mk Option.none (.store 1 (.tmp 2) (.const (.int .i64 0))) Option.none), (.mk Option.none (.store 1 (.tmp 3) (.const (.bool Bool.false))) Option.none)]) .ret) .skip)) (.seq
  (.seq (.region [(.mk (Option.some 8) (.mv (.tmp 0)) Option.none), (.mk (Option.some 9) (.nilCheck (.tmp 8)) Option.none), (.mk (Option.some 10) (.fieldAddr 0 (.tmp 9))
  Option.none), (.mk (Option.some 11) (.load 1 Bool.false (.tmp 10)) Option.none), (.mk (Option.some 12) (.call 221 [(.tmp 11)]) Option.none)]) (.block 0 (.rangeF (.tmp 12) [13,
  14] 22 (.region [(.mk (Option.some 5) (.alloc [(.int .i64 0), (.int .i64 0), (.bool Bool.false), (.int .i64 0), (.bool Bool.false)]) Option.none), (.mk Option.none (.store 5
  (.tmp 5) (.tmp 14)) Option.none)]) (.block 1 (.seq (.region [(.mk (Option.some 15) (.fieldAddr 4 (.tmp 5)) Option.none), (.mk (Option.some 16) (.load 1 Bool.false (.tmp 15))
  Option.none), (.mk (Option.some 17) (.un .not (.tmp 16)) Option.none)]) (.cond (.tmp 17) (.seq (.draws [((.mk (Option.some 18) (.fieldAddr 1 (.tmp 5)) Option.none), (0, 4)),
  ((.mk (Option.some 19) (.load 1 Bool.false (.tmp 18)) Option.none), (0, 4)), ((.mk (Option.some 20) (.fieldAddr 2 (.tmp 5)) Option.none), (0, 5)), ((.mk (Option.some 21) (.load 1
  Bool.false (.tmp 20)) Option.none), (0, 5)), ((.mk Option.none (.store 1 (.tmp 2) (.tmp 19)) Option.none), (0, 5)), ((.mk Option.none (.store 1 (.tmp 3) (.tmp 21)) Option.none),
  (5, 6))]) .ret) .skip)))))) (.seq (.region [(.mk Option.none (.store 1 (.tmp 2) (.const (.int .i64 0))) Option.none), (.mk Option.none (.store 1 (.tmp 3) (.const (.bool
  Bool.false))) Option.none)]) .ret)))) 22 [(.cell 2 1 Bool.false), (.cell 3 1 Bool.false)])
def a128 : AFn :=
  (.mk (.seq (.region [(.mk (Option.some 5) (.mv (.tmp 0)) Option.none), (.mk (Option.some 6) (.len (.tmp 5)) Option.none), (.mk (Option.some 4) (.mv (.tmp 6)) Option.none)])
  (.region [(.mk (Option.some 7) (.mv (.tmp 0)) Option.none), (.mk (Option.some 8) (.mv (.tmp 4)) Option.none), (.mk (Option.some 9) (.mv (.tmp 4)) Option.none), (.mk (Option.some
  10) (.conv .u64 (.tmp 9)) Option.none), (.mk (Option.some 11) (.call 223 [(.tmp 10)]) Option.none), (.mk (Option.some 12) (.mv (.tmp 1)) Option.none), (.mk (Option.some 13)
  (.call 222 [(.tmp 7), (.const (.int .i64 0)), (.tmp 8), (.tmp 11), (.tmp 12)]) Option.none)])) 14 [])
def a132 : AFn :=
  (.mk (.seq (.region [(.mk (Option.some 1) (.box (.tmp 0)) Option.none), (.mk (Option.some 2) (.mv (.const .nilFunc)) Option.none)]) (.seq (.region [(.mk (Option.some 3) (.mkFunc
  (.func 226) [] [(.tmp 1)]) Option.none), (.mk (Option.some 2) (.mv (.tmp 3)) Option.none)]) .ret)) 4 [(.tmp 2)])
def a133 : AFn :=
  (.mk (.seq (.region [(.mk (Option.some 2) (.mv (.const (.slice Option.none 0 0))) Option.none)]) (.seq (.seq (.region [(.mk (Option.some 3) (.mv (.tmp 0)) Option.none), (.mk
  (Option.some 4) (.eq .ptr Bool.false (.tmp 3) (.const (.pointer Option.none))) Option.none)]) (.cond (.tmp 4) (.seq (.region [(.mk (Option.some 2) (.mv (.const (.slice
  Option.none 0 0))) Option.none)]) .ret) .skip)) (.seq (.region [(.mk (Option.some 5) (.mv (.tmp 0)) Option.none), (.mk (Option.some 6) (.nilCheck (.tmp 5)) Option.none), (.mk
  (Option.some 7) (.fieldAddr 0 (.tmp 6)) Option.none), (.mk (Option.some 8) (.load 1 Bool.false (.tmp 7)) Option.none), (.mk (Option.some 9) (.call 227 [(.tmp 8)]) Option.none),
  (.mk (Option.some 2) (.mv (.tmp 9)) Option.none)]) .ret))) 10 [(.tmp 2)])
def a134 : AFn :=
  (.mk (.seq (.region [(.mk (Option.some 6) (.alloc [(.int .i64 0), (.str []), (.int .i64 0), (.int .i64 0)]) Option.none)]) (.seq (.region [(.mk (Option.some 7) (.mv (.tmp 0))
  Option.none), (.mk (Option.some 8) (.mv (.tmp 1)) Option.none), (.mk (Option.some 9) (.mv (.tmp 2)) Option.none), (.mk (Option.some 10) (.build [(.int .i64 0), (.str []), (.int
  .i64 0), (.int .i64 0)] [(0, (1, (.tmp 7))), (1, (1, (.tmp 8))), (2, (1, (.tmp 9)))]) Option.none), (.mk Option.none (.store 4 (.tmp 6) (.tmp 10)) Option.none)]) .ret)) 11
  [(.cell 6 4 Bool.true)])
def a145 : AFn :=
  (.mk (.seq (.region [(.mk (Option.some 2) (.mv (.const (.int .i64 0))) Option.none)]) (.seq (.region [(.mk (Option.some 3) (.mv (.const (.int .i64 0))) Option.none)]) (.seq (.seq
  (.region [(.mk (Option.some 6) (.mv (.tmp 0)) Option.none), (.mk (Option.some 7) (.call 84 [(.tmp 6)]) Option.none), (.mk (Option.some 8) (.len (.tmp 7)) Option.none), (.mk
  (Option.some 9) (.mv (.const (.int .i64 0))) Option.none)]) (.block 0 (.loop (.seq (.region [(.mk (Option.some 10) (.bin .lss (.tmp 9) (.tmp 8)) Option.none)]) (.seq (.cond (.tmp
  10) .skip (.exit 0)) (.seq (.block 1 (.seq (.region [(.mk (Option.some 11) (.atSlice 1 (.tmp 7) (.tmp 9)) Option.none), (.mk (Option.some 12) (.load 1 Bool.false (.tmp 11))
  Option.none), (.mk (Option.some 5) (.mv (.tmp 12)) Option.none)]) (.region [(.mk (Option.some 13) (.mv (.tmp 3)) Option.none), (.mk (Option.some 14) (.mv (.tmp 0)) Option.none),
  (.mk (Option.some 15) (.nilCheck (.tmp 14)) Option.none), (.mk (Option.some 16) (.fieldAddr 1 (.tmp 15)) Option.none), (.mk (Option.some 17) (.load 1 Bool.false (.tmp 16))
  Option.none), (.mk (Option.some 18) (.mv (.tmp 5)) Option.none), (.mk (Option.some 19) (.lookup (.int .i64) (.agg [(.slice Option.none 0 0 0 0), (.int .i64 0)]) Bool.false (.tmp
  17) (.tmp 18)) Option.none), (.mk (Option.some 20) (.field 0 1 Bool.false (.tmp 19)) Option.none), (.mk (Option.some 21) (.len (.tmp 20)) Option.none), (.mk (Option.some 22)
  (.bin .add (.tmp 13) (.tmp 21)) Option.none), (.mk (Option.some 3) (.mv (.tmp 22)) Option.none)]))) (.region [(.mk (Option.some 23) (.bin .add (.tmp 9) (.const (.int .i64 1)))
  Option.none), (.mk (Option.some 9) (.mv (.tmp 23)) Option.none)]))))))) (.seq (.region [(.mk (Option.some 24) (.mv (.tmp 3)) Option.none), (.mk (Option.some 2) (.mv (.tmp 24))
  Option.none)]) .ret)))) 25 [(.tmp 2)])
def a151 : AFn :=
  (.mk (.seq (.region [(.mk (Option.some 4) (.mv (.const .nilIface)) Option.none)]) (.seq (.seq (.region [(.mk (Option.some 5) (.mv (.tmp 1)) Option.none), (.mk (Option.some 6) (.eq
  (.iface Bool.true) Bool.false (.tmp 5) (.const .nilIface)) Option.none)]) (.cond (.tmp 6) (.seq (.region [(.mk (Option.some 4) (.mv (.const .nilIface)) Option.none)]) .ret)
  .skip)) (.seq (.region [(.mk (Option.some 7) (.mv (.tmp 1)) Option.none), (.mk (Option.some 8) (.build [.nilIface] [(0, (1, (.tmp 7)))]) Option.none), (.mk (Option.some 9) (.mv
  (.tmp 0)) Option.none), (.mk (Option.some 10) (.build [.nilIface, (.str [])] [(0, (1, (.tmp 8))), (1, (1, (.tmp 9)))]) Option.none), (.mk (Option.some 11) (.box (.tmp 10))
  Option.none), (.mk (Option.some 12) (.mkIface 352 (.tmp 11)) Option.none), (.mk (Option.some 4) (.mv (.tmp 12)) Option.none)]) .ret))) 13 [(.tmp 4)])
def a152 : AFn :=
  (.mk (.seq (.region [(.mk (Option.some 4) (.mv (.const (.int .i64 0))) Option.none)]) (.seq (.seq (.region [(.mk (Option.some 9) (.mv (.tmp 0)) Option.none), (.mk (Option.some 10)
  (.eq .ptr Bool.false (.tmp 9) (.const (.pointer Option.none))) Option.none)]) (.cond (.tmp 10) (.seq (.region [(.mk (Option.some 4) (.mv (.const (.int .i64 1))) Option.none)])
  .ret) .skip)) (.seq (.seq (.region [(.mk (Option.some 11) (.mv (.tmp 1)) Option.none), (.mk (Option.some 12) (.call 250 [(.tmp 11), (.func 251)]) Option.none)]) (.cond (.tmp 12)
  (.seq (.region [(.mk (Option.some 4) (.mv (.const (.int .i64 2))) Option.none)]) .ret) .skip)) (.seq (.region [(.mk (Option.some 13) (.mv (.tmp 0)) Option.none), (.mk
  (Option.some 14) (.call 199 [(.tmp 13)]) Option.none), (.mk (Option.some 5) (.mv (.tmp 14)) Option.none)]) (.seq (.seq (.region [(.mk (Option.some 15) (.mv (.tmp 1))
  Option.none), (.mk (Option.some 16) (.len (.tmp 15)) Option.none), (.mk (Option.some 17) (.mv (.const (.int .i64 0))) Option.none)]) (.block 0 (.loop (.seq (.region [(.mk
  (Option.some 18) (.bin .lss (.tmp 17) (.tmp 16)) Option.none)]) (.seq (.cond (.tmp 18) .skip (.exit 0)) (.seq (.block 1 (.seq (.region [(.mk (Option.some 19) (.atSlice 3 (.tmp
  15) (.tmp 17)) Option.none), (.mk (Option.some 20) (.load 3 Bool.true (.tmp 19)) Option.none), (.mk (Option.some 7) (.alloc [(.str []), (.int .i64 0), (.bool Bool.false)])
  Option.none), (.mk Option.none (.store 3 (.tmp 7) (.tmp 20)) Option.none)]) (.seq (.seq (.region [(.mk (Option.some 21) (.fieldAddr 2 (.tmp 7)) Option.none), (.mk (Option.some
  22) (.load 1 Bool.false (.tmp 21)) Option.none), (.mk (Option.some 23) (.un .not (.tmp 22)) Option.none)]) (.cond (.tmp 23) (.seq (.region [(.mk (Option.some 24) (.mv (.tmp 5))
  Option.none), (.mk (Option.some 25) (.fieldAddr 0 (.tmp 7)) Option.none), (.mk (Option.some 26) (.load 1 Bool.false (.tmp 25)) Option.none), (.mk (Option.some 27) (.call 253
  [(.tmp 24), (.tmp 26)]) Option.none)]) (.exit 1)) .skip)) (.seq (.region [(.mk (Option.some 28) (.mv (.tmp 5)) Option.none), (.mk (Option.some 29) (.fieldAddr 0 (.tmp 7))
  Option.none), (.mk (Option.some 30) (.load 1 Bool.false (.tmp 29)) Option.none), (.mk (Option.some 31) (.fieldAddr 1 (.tmp 7)) Option.none), (.mk (Option.some 32) (.load 1
  Bool.false (.tmp 31)) Option.none), (.mk (Option.some 33) (.call 198 [(.tmp 28), (.tmp 30), (.tmp 32)]) Option.none), (.mk (Option.some 8) (.mv (.tmp 33)) Option.none)]) (.seq
  (.region [(.mk (Option.some 34) (.mv (.tmp 8)) Option.none), (.mk (Option.some 35) (.eq (.iface Bool.true) Bool.true (.tmp 34) (.const .nilIface)) Option.none)]) (.cond (.tmp 35)
  (.seq (.region [(.mk (Option.some 36) (.mv (.tmp 8)) Option.none), (.mk (Option.some 37) (.call 67 [(.tmp 36)]) Option.none), (.mk (Option.some 4) (.mv (.tmp 37)) Option.none)])
  .ret) .skip)))))) (.region [(.mk (Option.some 38) (.bin .add (.tmp 17) (.const (.int .i64 1))) Option.none), (.mk (Option.some 17) (.mv (.tmp 38)) Option.none)]))))))) (.seq
  (.region [(.mk (Option.some 39) (.mv (.tmp 0)) Option.none), (.mk (Option.some 40) (.mv (.tmp 5)) Option.none), (.mk (Option.some 41) (.nilCheck (.tmp 40)) Option.none), (.mk
  (Option.some 42) (.fieldAddr 0 (.tmp 41)) Option.none), (.mk (Option.some 43) (.load 1 Bool.false (.tmp 42)) Option.none), (.mk (Option.some 44) (.nilCheck (.tmp 39))
  Option.none), (.mk (Option.some 45) (.fieldAddr 0 (.tmp 44)) Option.none), (.mk Option.none (.store 1 (.tmp 45) (.tmp 43)) Option.none)]) (.seq (.region [(.mk (Option.some 4)
  (.mv (.const (.int .i64 0))) Option.none)]) .ret))))))) 46 [(.tmp 4)])
def a153 : AFn :=
  (.mk (.seq (.region [(.mk (Option.some 4) (.mv (.const (.bool Bool.false))) Option.none)]) (.seq (.seq (.region [(.mk (Option.some 8) (.mv (.tmp 0)) Option.none), (.mk (Option.some
  9) (.eq (.iface Bool.true) Bool.false (.tmp 8) (.const .nilIface)) Option.none)]) (.cond (.tmp 9) (.seq (.region [(.mk (Option.some 4) (.mv (.const (.bool Bool.false)))
  Option.none)]) .ret) .skip)) (.seq (.seq (.region [(.mk (Option.some 10) (.mv (.tmp 1)) Option.none), (.mk (Option.some 11) (.eq (.iface Bool.true) Bool.false (.tmp 10) (.const
  .nilIface)) Option.none)]) (.cond (.tmp 11) (.region [(.mk (Option.some 12) (.mkIface 9 (.const (.string (ByteArray.mk #[101, 114, 114, 111, 114, 115, 58, 32, 116, 97, 114, 103,
  101, 116, 32, 99, 97, 110, 110, 111, 116, 32, 98, 101, 32, 110, 105, 108])))) Option.none), (.mk Option.none (.extract (.const (.bool Bool.false)) 0) Option.none)]) .skip)) (.seq
  (.region [(.mk (Option.some 13) (.mv (.tmp 1)) Option.none), (.mk (Option.some 14) (.call 254 [(.tmp 13)]) Option.none), (.mk (Option.some 5) (.alloc [(.ptr Option.none), (.ptr
  Option.none), (.int .u64 0)]) Option.none), (.mk Option.none (.store 3 (.tmp 5) (.tmp 14)) Option.none)]) (.seq (.region [(.mk (Option.some 15) (.load 3 Bool.true (.tmp 5))
  Option.none), (.mk (Option.some 16) (.call 255 [(.tmp 15)]) Option.none), (.mk (Option.some 6) (.mv (.tmp 16)) Option.none)]) (.seq (.seq (.region [(.mk (Option.some 17) (.mv
  (.tmp 6)) Option.none), (.mk (Option.some 18) (.invoke (.tmp 17) [(17, (430, Option.none)), (361, (445, Option.none)), (429, (430, (Option.some (0, (0, Bool.false))))), (430,
  (430, (Option.some (0, (0, Bool.false)))))] []) Option.none), (.mk (Option.some 19) (.bin .neq (.tmp 18) (.const (.int .u8 22))) Option.none), (.mk (Option.some 20) (.mv (.tmp
  19)) Option.none), (.mk (Option.some 21) (.load 3 Bool.true (.tmp 5)) (Option.some (20, Bool.false))), (.mk (Option.some 22) (.call 256 [(.tmp 21)]) (Option.some (20,
  Bool.false))), (.mk (Option.some 23) (.pick (.tmp 20) (.const (.bool Bool.true)) (.tmp 22)) Option.none)]) (.cond (.tmp 23) (.region [(.mk (Option.some 24) (.mkIface 9 (.const
  (.string (ByteArray.mk #[101, 114, 114, 111, 114, 115, 58, 32, 116, 97, 114, 103, 101, 116, 32, 109, 117, 115, 116, 32, 98, 101, 32, 97, 32, 110, 111, 110, 45, 110, 105, 108, 32,
  112, 111, 105, 110, 116, 101, 114])))) Option.none), (.mk Option.none (.extract (.const (.bool Bool.false)) 0) Option.none)]) .skip)) (.seq (.region [(.mk (Option.some 25) (.mv
  (.tmp 6)) Option.none), (.mk (Option.some 26) (.invoke (.tmp 25) [(17, (429, Option.none)), (361, (344, Option.none)), (429, (429, (Option.some (0, (0, Bool.false))))), (430,
  (450, Option.none))] []) Option.none), (.mk (Option.some 7) (.mv (.tmp 26)) Option.none)]) (.seq (.seq (.region [(.mk (Option.some 27) (.mv (.tmp 7)) Option.none), (.mk
  (Option.some 28) (.invoke (.tmp 27) [(17, (430, Option.none)), (361, (445, Option.none)), (429, (430, (Option.some (0, (0, Bool.false))))), (430, (430, (Option.some (0, (0,
  Bool.false)))))] []) Option.none), (.mk (Option.some 29) (.bin .neq (.tmp 28) (.const (.int .u8 20))) Option.none), (.mk (Option.some 30) (.mv (.tmp 29)) Option.none), (.mk
  (Option.some 31) (.mv (.tmp 7)) (Option.some (30, Bool.true))), (.mk (Option.some 32) (.load 1 Bool.false (.global 0)) (Option.some (30, Bool.true))), (.mk (Option.some 33)
  (.invoke (.tmp 31) [(430, (451, Option.none))] [(.tmp 32)]) (Option.some (30, Bool.true))), (.mk (Option.some 34) (.un .not (.tmp 33)) (Option.some (30, Bool.true))), (.mk
  (Option.some 35) (.pick (.tmp 30) (.tmp 34) (.const (.bool Bool.false))) Option.none)]) (.cond (.tmp 35) (.region [(.mk (Option.some 36) (.mkIface 9 (.const (.string
  (ByteArray.mk #[101, 114, 114, 111, 114, 115, 58, 32, 42, 116, 97, 114, 103, 101, 116, 32, 109, 117, 115, 116, 32, 98, 101, 32, 105, 110, 116, 101, 114, 102, 97, 99, 101, 32,
  111, 114, 32, 105, 109, 112, 108, 101, 109, 101, 110, 116, 32, 101, 114, 114, 111, 114])))) Option.none), (.mk Option.none (.extract (.const (.bool Bool.false)) 0) Option.none)])
  .skip)) (.seq (.region [(.mk (Option.some 37) (.mv (.tmp 0)) Option.none), (.mk (Option.some 38) (.mv (.tmp 1)) Option.none), (.mk (Option.some 39) (.load 3 Bool.true (.tmp 5))
  Option.none), (.mk (Option.some 40) (.mv (.tmp 7)) Option.none), (.mk (Option.some 41) (.call 257 [(.tmp 37), (.tmp 38), (.tmp 39), (.tmp 40)]) Option.none), (.mk (Option.some 4)
  (.mv (.tmp 41)) Option.none)]) .ret))))))))) 42 [(.tmp 4)])
def a154 : AFn :=
  (.mk (.seq (.region [(.mk (Option.some 4) (.mv (.const .nilIface)) Option.none)]) (.seq (.seq (.region [(.mk (Option.some 12) (.mv (.tmp 1)) Option.none), (.mk (Option.some 13)
  (.len (.tmp 12)) Option.none), (.mk (Option.some 14) (.bin .eql (.tmp 13) (.const (.int .i64 0))) Option.none)]) (.cond (.tmp 14) (.seq (.region [(.mk (Option.some 4) (.mv
  (.const .nilIface)) Option.none)]) .ret) .skip)) (.seq (.region [(.mk (Option.some 5) (.mv (.const (.slice Option.none 0 0))) Option.none)]) (.seq (.seq (.region [(.mk
  (Option.some 15) (.mv (.tmp 1)) Option.none), (.mk (Option.some 16) (.len (.tmp 15)) Option.none), (.mk (Option.some 17) (.mv (.const (.int .i64 0))) Option.none)]) (.block 0
  (.loop (.seq (.region [(.mk (Option.some 18) (.bin .lss (.tmp 17) (.tmp 16)) Option.none)]) (.seq (.cond (.tmp 18) .skip (.exit 0)) (.seq (.block 1 (.seq (.region [(.mk
  (Option.some 19) (.mv (.tmp 17)) Option.none), (.mk (Option.some 20) (.atSlice 1 (.tmp 15) (.tmp 17)) Option.none), (.mk (Option.some 21) (.load 1 Bool.false (.tmp 20))
  Option.none), (.mk (Option.some 6) (.mv (.tmp 19)) Option.none), (.mk (Option.some 7) (.mv (.tmp 21)) Option.none)]) (.seq (.seq (.region [(.mk (Option.some 22) (.mv (.tmp 7))
  Option.none), (.mk (Option.some 23) (.len (.tmp 22)) Option.none), (.mk (Option.some 24) (.bin .gtr (.tmp 23) (.const (.int .i64 16383))) Option.none)]) (.cond (.tmp 24) (.seq
  (.region [(.mk (Option.some 25) (.mv (.tmp 6)) Option.none), (.mk (Option.some 26) (.mv (.tmp 7)) Option.none), (.mk (Option.some 27) (.len (.tmp 26)) Option.none), (.mk
  (Option.some 28) (.call 90 [(.const (.int .i64 7))]) Option.none), (.mk (Option.some 29) (.call 150 [(.const (.int .i64 16383)), (.tmp 27), (.tmp 28)]) Option.none), (.mk
  (Option.some 30) (.call 82 [(.tmp 25), (.tmp 29)]) Option.none), (.mk (Option.some 4) (.mv (.tmp 30)) Option.none)]) .ret) .skip)) (.region [(.mk (Option.some 31) (.mv (.tmp 5))
  Option.none), (.mk (Option.some 32) (.buildSlice 1 1 [(.int .u8 0)] [(0, (1, (.const (.int .u8 0))))]) Option.none), (.mk (Option.some 33) (.mv (.tmp 7)) Option.none), (.mk
  (Option.some 34) (.buildSlice 2 1 [(.slice Option.none 0 0 0 0), (.slice Option.none 0 0 0 0)] [(0, (1, (.tmp 32))), (1, (1, (.tmp 33)))]) Option.none), (.mk (Option.some 35)
  (.call 160 [(.tmp 34)]) Option.none), (.mk (Option.some 36) (.append Bool.false 1 1 (.tmp 31) (.tmp 35)) Option.none), (.mk (Option.some 5) (.mv (.tmp 36)) Option.none)]))))
  (.region [(.mk (Option.some 37) (.bin .add (.tmp 17) (.const (.int .i64 1))) Option.none), (.mk (Option.some 17) (.mv (.tmp 37)) Option.none)]))))))) (.seq (.region [(.mk
  (Option.some 39) (.mv (.tmp 0)) Option.none), (.mk (Option.some 40) (.mv (.tmp 5)) Option.none), (.mk (Option.some 41) (.len (.tmp 40)) Option.none), (.mk (Option.some 42) (.call
  258 [(.tmp 39), (.tmp 41)]) Option.none), (.mk (Option.some 38) (.mv (.tmp 42)) Option.none), (.mk (Option.some 43) (.extract (.tmp 38) 0) Option.none), (.mk (Option.some 44)
  (.extract (.tmp 38) 1) Option.none), (.mk (Option.some 8) (.mv (.tmp 43)) Option.none), (.mk (Option.some 9) (.mv (.tmp 44)) Option.none)]) (.seq (.seq (.region [(.mk
  (Option.some 45) (.mv (.tmp 9)) Option.none), (.mk (Option.some 46) (.eq (.iface Bool.true) Bool.false (.tmp 45) (.const .nilIface)) Option.none)]) (.cond (.tmp 46) (.region
  [(.mk (Option.some 47) (.mv (.tmp 8)) Option.none), (.mk (Option.some 48) (.mv (.tmp 0)) Option.none), (.mk (Option.some 49) (.nilCheck (.tmp 48)) Option.none), (.mk (Option.some
  50) (.fieldAddr 0 (.tmp 49)) Option.none), (.mk (Option.some 51) (.load 1 Bool.false (.tmp 50)) Option.none), (.mk (Option.some 52) (.mv (.tmp 8)) Option.none), (.mk (Option.some
  53) (.mv (.tmp 5)) Option.none), (.mk (Option.some 54) (.buildSlice 1 1 [(.slice Option.none 0 0 0 0)] [(0, (1, (.tmp 53)))]) Option.none), (.mk (Option.some 55) (.call 159
  [(.tmp 51), (.tmp 52), (.tmp 54)]) Option.none), (.mk (Option.some 56) (.call 158 [(.tmp 47), (.tmp 55)]) Option.none), (.mk (Option.some 9) (.mv (.tmp 56)) Option.none)])
  .skip)) (.seq (.seq (.region [(.mk (Option.some 57) (.mv (.tmp 9)) Option.none), (.mk (Option.some 58) (.eq (.iface Bool.true) Bool.true (.tmp 57) (.const .nilIface))
  Option.none)]) (.cond (.tmp 58) (.seq (.region [(.mk (Option.some 59) (.mv (.tmp 9)) Option.none), (.mk (Option.some 4) (.mv (.tmp 59)) Option.none)]) .ret) .skip)) (.seq
  (.region [(.mk (Option.some 60) (.mv (.tmp 0)) Option.none), (.mk (Option.some 61) (.mv (.tmp 8)) Option.none), (.mk (Option.some 62) (.nilCheck (.tmp 60)) Option.none), (.mk
  (Option.some 63) (.fieldAddr 2 (.tmp 62)) Option.none), (.mk Option.none (.store 1 (.tmp 63) (.tmp 61)) Option.none)]) (.seq (.seq (.region [(.mk (Option.some 64) (.mv (.tmp 1))
  Option.none), (.mk (Option.some 65) (.len (.tmp 64)) Option.none), (.mk (Option.some 66) (.mv (.const (.int .i64 0))) Option.none)]) (.block 2 (.loop (.seq (.region [(.mk
  (Option.some 67) (.bin .lss (.tmp 66) (.tmp 65)) Option.none)]) (.seq (.cond (.tmp 67) .skip (.exit 2)) (.seq (.block 3 (.seq (.region [(.mk (Option.some 68) (.atSlice 1 (.tmp
  64) (.tmp 66)) Option.none), (.mk (Option.some 69) (.load 1 Bool.false (.tmp 68)) Option.none), (.mk (Option.some 11) (.mv (.tmp 69)) Option.none)]) (.draws [((.mk (Option.some
  70) (.mv (.tmp 0)) Option.none), (0, 11)), ((.mk (Option.some 71) (.mv (.tmp 0)) Option.none), (0, 8)), ((.mk (Option.some 72) (.nilCheck (.tmp 71)) Option.none), (0, 8)), ((.mk
  (Option.some 73) (.fieldAddr 4 (.tmp 72)) Option.none), (0, 8)), ((.mk (Option.some 74) (.load 1 Bool.false (.tmp 73)) Option.none), (0, 8)), ((.mk (Option.some 75) (.mv (.tmp
  11)) Option.none), (0, 6)), ((.mk (Option.some 76) (.call 85 [(.tmp 75)]) Option.none), (0, 7)), ((.mk (Option.some 77) (.buildSlice 1 1 [(.slice Option.none 0 0 0 0)] [(0, (1,
  (.tmp 76)))]) Option.none), (7, 8)), ((.mk (Option.some 78) (.append Bool.false 1 24 (.tmp 74) (.tmp 77)) Option.none), (8, 11)), ((.mk (Option.some 79) (.nilCheck (.tmp 70))
  Option.none), (9, 11)), ((.mk (Option.some 80) (.fieldAddr 4 (.tmp 79)) Option.none), (9, 11)), ((.mk Option.none (.store 1 (.tmp 80) (.tmp 78)) Option.none), (9, 12))])))
  (.region [(.mk (Option.some 81) (.bin .add (.tmp 66) (.const (.int .i64 1))) Option.none), (.mk (Option.some 66) (.mv (.tmp 81)) Option.none)]))))))) (.seq (.region [(.mk
  (Option.some 4) (.mv (.const .nilIface)) Option.none)]) .ret)))))))))) 82 [(.tmp 4)])
def a155 : AFn :=
  (.mk (.seq (.region [(.mk (Option.some 2) (.mv (.const (.int .i64 0))) Option.none)]) (.seq (.block 0 (.seq (.region [(.mk (Option.some 4) (.mv (.tmp 0)) Option.none), (.mk
  (Option.some 5) (.eq .ptr Bool.false (.tmp 4) (.const (.pointer Option.none))) Option.none), (.mk (Option.some 3) (.mv (.tmp 5)) Option.none)]) (.cond (.tmp 3) (.seq (.region
  [(.mk (Option.some 2) (.mv (.const (.int .i64 1))) Option.none)]) .ret) (.seq (.region [(.mk (Option.some 7) (.mv (.tmp 0)) Option.none), (.mk (Option.some 8) (.nilCheck (.tmp
  7)) Option.none), (.mk (Option.some 9) (.fieldAddr 2 (.tmp 8)) Option.none), (.mk (Option.some 10) (.load 1 Bool.false (.tmp 9)) Option.none), (.mk (Option.some 11) (.bin .lss
  (.tmp 10) (.const (.int .i64 0))) Option.none), (.mk (Option.some 6) (.mv (.tmp 11)) Option.none)]) (.cond (.tmp 6) (.seq (.region [(.mk (Option.some 2) (.mv (.const (.int .i64
  0))) Option.none)]) .ret) .skip))))) (.seq (.draws [((.mk (Option.some 12) (.mv (.tmp 0)) Option.none), (0, 8)), ((.mk (Option.some 13) (.nilCheck (.tmp 12)) Option.none), (0,
  8)), ((.mk (Option.some 14) (.fieldAddr 0 (.tmp 13)) Option.none), (0, 8)), ((.mk (Option.some 15) (.load 1 Bool.false (.tmp 14)) Option.none), (0, 8)), ((.mk (Option.some 16)
  (.mv (.tmp 0)) Option.none), (0, 8)), ((.mk (Option.some 17) (.nilCheck (.tmp 16)) Option.none), (0, 8)), ((.mk (Option.some 18) (.fieldAddr 2 (.tmp 17)) Option.none), (0, 8)),
  ((.mk (Option.some 19) (.load 1 Bool.false (.tmp 18)) Option.none), (0, 8)), ((.mk (Option.some 20) (.call 161 [(.tmp 15), (.tmp 19)]) Option.none), (0, 10)), ((.mk (Option.some
  2) (.mv (.tmp 20)) Option.none), (9, 10))]) .ret))) 21 [(.tmp 2)])
def a156 : AFn :=
  (.mk (.seq (.region [(.mk (Option.some 2) (.mv (.const (.slice Option.none 0 0))) Option.none)]) (.seq (.region [(.mk (Option.some 4) (.mv (.tmp 0)) Option.none), (.mk (Option.some
  5) (.call 259 [(.tmp 4)]) Option.none), (.mk (Option.some 3) (.mv (.tmp 5)) Option.none)]) (.seq (.region [(.mk (Option.some 6) (.mv (.tmp 3)) Option.none), (.mk (Option.some 7)
  (.call 260 [(.tmp 6)]) Option.none)]) (.seq (.region [(.mk (Option.some 8) (.mv (.tmp 3)) Option.none), (.mk (Option.some 2) (.mv (.tmp 8)) Option.none)]) .ret)))) 9 [(.tmp 2)])
def a158 : AFn :=
  (.mk (.seq (.region [(.mk (Option.some 4) (.mv (.const .nilIface)) Option.none)]) (.seq (.region [(.mk (Option.some 5) (.mv (.tmp 0)) Option.none), (.mk (Option.some 6) (.mv (.tmp
  1)) Option.none), (.mk (Option.some 7) (.call 90 [(.tmp 6)]) Option.none), (.mk (Option.some 8) (.call 82 [(.tmp 5), (.tmp 7)]) Option.none), (.mk (Option.some 4) (.mv (.tmp 8))
  Option.none)]) .ret)) 9 [(.tmp 4)])
def a159 : AFn :=
  (.mk (.seq (.region [(.mk (Option.some 6) (.mv (.const (.int .i64 0))) Option.none)]) (.seq (.region [(.mk (Option.some 12) (.mv (.tmp 0)) Option.none), (.mk (Option.some 13) (.mv
  (.tmp 1)) Option.none), (.mk (Option.some 14) (.call 262 [(.tmp 12), (.tmp 13), (.const (.bool Bool.true))]) Option.none), (.mk (Option.some 7) (.mv (.tmp 14)) Option.none)])
  (.seq (.seq (.region [(.mk (Option.some 15) (.mv (.tmp 7)) Option.none), (.mk (Option.some 16) (.eq (.iface Bool.true) Bool.false (.tmp 15) (.const .nilIface)) Option.none)])
  (.cond (.tmp 16) (.region [(.mk (Option.some 17) (.mv (.tmp 0)) Option.none), (.mk (Option.some 18) (.mv (.tmp 1)) Option.none), (.mk (Option.some 19) (.mv (.tmp 2))
  Option.none), (.mk (Option.some 20) (.call 263 [(.tmp 17), (.tmp 18), (.tmp 19)]) Option.none), (.mk (Option.some 7) (.mv (.tmp 20)) Option.none)]) .skip)) (.seq (.seq (.region
  [(.mk (Option.some 21) (.mv (.tmp 7)) Option.none), (.mk (Option.some 22) (.eq (.iface Bool.true) Bool.true (.tmp 21) (.const .nilIface)) Option.none)]) (.cond (.tmp 22) (.seq
  (.region [(.mk (Option.some 23) (.mv (.tmp 7)) Option.none), (.mk (Option.some 24) (.call 67 [(.tmp 23)]) Option.none), (.mk (Option.some 6) (.mv (.tmp 24)) Option.none)]) .ret)
  .skip)) (.seq (.region [(.mk (Option.some 25) (.mv (.tmp 0)) Option.none), (.mk (Option.some 26) (.nilCheck (.tmp 25)) Option.none), (.mk (Option.some 27) (.fieldAddr 1 (.tmp
  26)) Option.none), (.mk (Option.some 28) (.load 1 Bool.false (.tmp 27)) Option.none), (.mk (Option.some 29) (.mv (.tmp 1)) Option.none), (.mk (Option.some 30) (.lookup (.int
  .i64) (.agg [(.slice Option.none 0 0 0 0), (.int .i64 0)]) Bool.false (.tmp 28) (.tmp 29)) Option.none), (.mk (Option.some 8) (.alloc [(.slice Option.none 0 0 0 0), (.int .i64
  0)]) Option.none), (.mk Option.none (.store 2 (.tmp 8) (.tmp 30)) Option.none)]) (.seq (.region [(.mk (Option.some 31) (.fieldAddr 0 (.tmp 8)) Option.none), (.mk (Option.some 32)
  (.load 1 Bool.false (.tmp 31)) Option.none), (.mk (Option.some 33) (.call 85 [(.tmp 32)]) Option.none), (.mk (Option.some 9) (.mv (.tmp 33)) Option.none)]) (.seq (.seq (.region
  [(.mk (Option.some 34) (.mv (.tmp 2)) Option.none), (.mk (Option.some 35) (.len (.tmp 34)) Option.none), (.mk (Option.some 36) (.mv (.const (.int .i64 0))) Option.none)]) (.block
  0 (.loop (.seq (.region [(.mk (Option.some 37) (.bin .lss (.tmp 36) (.tmp 35)) Option.none)]) (.seq (.cond (.tmp 37) .skip (.exit 0)) (.seq (.block 1 (.seq (.region [(.mk
  (Option.some 38) (.atSlice 1 (.tmp 34) (.tmp 36)) Option.none), (.mk (Option.some 39) (.load 1 Bool.false (.tmp 38)) Option.none), (.mk (Option.some 11) (.mv (.tmp 39))
  Option.none)]) (.region [(.mk (Option.some 40) (.mv (.tmp 9)) Option.none), (.mk (Option.some 41) (.mv (.tmp 11)) Option.none), (.mk (Option.some 42) (.append Bool.false 1 1
  (.tmp 40) (.tmp 41)) Option.none), (.mk (Option.some 9) (.mv (.tmp 42)) Option.none)]))) (.region [(.mk (Option.some 43) (.bin .add (.tmp 36) (.const (.int .i64 1)))
  Option.none), (.mk (Option.some 36) (.mv (.tmp 43)) Option.none)]))))))) (.seq (.region [(.mk (Option.some 44) (.mv (.tmp 0)) Option.none), (.mk (Option.some 45) (.mv (.tmp 1))
  Option.none), (.mk (Option.some 46) (.mv (.tmp 9)) Option.none), (.mk (Option.some 47) (.fieldAddr 1 (.tmp 8)) Option.none), (.mk (Option.some 48) (.load 1 Bool.false (.tmp 47))
  Option.none), (.mk (Option.some 49) (.build [(.slice Option.none 0 0 0 0), (.int .i64 0)] [(0, (1, (.tmp 46))), (1, (1, (.tmp 48)))]) Option.none), (.mk (Option.some 50) (.call
  264 [(.tmp 44), (.tmp 45), (.tmp 49)]) Option.none), (.mk (Option.some 6) (.mv (.tmp 50)) Option.none)]) .ret)))))))) 51 [(.tmp 6)])
def a160 : AFn :=
  (.mk (.seq (.region [(.mk (Option.some 2) (.mv (.const (.slice Option.none 0 0))) Option.none)]) (.seq (.region [(.mk (Option.some 3) (.mv (.const (.int .i64 0))) Option.none)])
  (.seq (.seq (.region [(.mk (Option.some 10) (.mv (.tmp 0)) Option.none), (.mk (Option.some 11) (.len (.tmp 10)) Option.none), (.mk (Option.some 12) (.mv (.const (.int .i64 0)))
  Option.none)]) (.block 0 (.loop (.seq (.region [(.mk (Option.some 13) (.bin .lss (.tmp 12) (.tmp 11)) Option.none)]) (.seq (.cond (.tmp 13) .skip (.exit 0)) (.seq (.block 1 (.seq
  (.region [(.mk (Option.some 14) (.atSlice 1 (.tmp 10) (.tmp 12)) Option.none), (.mk (Option.some 15) (.load 1 Bool.false (.tmp 14)) Option.none), (.mk (Option.some 5) (.mv (.tmp
  15)) Option.none)]) (.seq (.seq (.region [(.mk (Option.some 16) (.mv (.tmp 5)) Option.none), (.mk (Option.some 17) (.len (.tmp 16)) Option.none), (.mk (Option.some 18) (.mv (.tmp
  3)) Option.none), (.mk (Option.some 19) (.bin .sub (.const (.int .i64 16384)) (.tmp 18)) Option.none), (.mk (Option.some 20) (.bin .gtr (.tmp 17) (.tmp 19)) Option.none)]) (.cond
  (.tmp 20) (.seq (.region [(.mk (Option.some 2) (.mv (.const (.slice Option.none 0 0))) Option.none)]) .ret) .skip)) (.region [(.mk (Option.some 21) (.mv (.tmp 3)) Option.none),
  (.mk (Option.some 22) (.mv (.tmp 5)) Option.none), (.mk (Option.some 23) (.len (.tmp 22)) Option.none), (.mk (Option.some 24) (.bin .add (.tmp 21) (.tmp 23)) Option.none), (.mk
  (Option.some 3) (.mv (.tmp 24)) Option.none)])))) (.region [(.mk (Option.some 25) (.bin .add (.tmp 12) (.const (.int .i64 1))) Option.none), (.mk (Option.some 12) (.mv (.tmp 25))
  Option.none)]))))))) (.seq (.region [(.mk (Option.some 26) (.mv (.tmp 3)) Option.none), (.mk (Option.some 27) (.bin .add (.tmp 26) (.const (.int .i64 3))) Option.none), (.mk
  (Option.some 28) (.bin .add (.tmp 27) (.const (.int .i64 4))) Option.none), (.mk (Option.some 29) (.makeSlice 1 1 [(.int .u8 0)] (.const (.int .i64 0)) (.tmp 28)) Option.none),
  (.mk (Option.some 30) (.mv (.tmp 3)) Option.none), (.mk (Option.some 31) (.bin .shr (.tmp 30) (.const (.int .u64 8))) Option.none), (.mk (Option.some 32) (.conv .u8 (.tmp 31))
  Option.none), (.mk (Option.some 33) (.mv (.tmp 3)) Option.none), (.mk (Option.some 34) (.conv .u8 (.tmp 33)) Option.none), (.mk (Option.some 35) (.buildSlice 3 1 [(.int .u8 0),
  (.int .u8 0), (.int .u8 0)] [(0, (1, (.const (.int .u8 167)))), (1, (1, (.tmp 32))), (2, (1, (.tmp 34)))]) Option.none), (.mk (Option.some 36) (.append Bool.false 1 1 (.tmp 29)
  (.tmp 35)) Option.none), (.mk (Option.some 6) (.mv (.tmp 36)) Option.none)]) (.seq (.seq (.region [(.mk (Option.some 37) (.mv (.tmp 0)) Option.none), (.mk (Option.some 38) (.len
  (.tmp 37)) Option.none), (.mk (Option.some 39) (.mv (.const (.int .i64 0))) Option.none)]) (.block 2 (.loop (.seq (.region [(.mk (Option.some 40) (.bin .lss (.tmp 39) (.tmp 38))
  Option.none)]) (.seq (.cond (.tmp 40) .skip (.exit 2)) (.seq (.block 3 (.seq (.region [(.mk (Option.some 41) (.atSlice 1 (.tmp 37) (.tmp 39)) Option.none), (.mk (Option.some 42)
  (.load 1 Bool.false (.tmp 41)) Option.none), (.mk (Option.some 8) (.mv (.tmp 42)) Option.none)]) (.region [(.mk (Option.some 43) (.mv (.tmp 6)) Option.none), (.mk (Option.some
  44) (.mv (.tmp 8)) Option.none), (.mk (Option.some 45) (.append Bool.false 1 1 (.tmp 43) (.tmp 44)) Option.none), (.mk (Option.some 6) (.mv (.tmp 45)) Option.none)]))) (.region
  [(.mk (Option.some 46) (.bin .add (.tmp 39) (.const (.int .i64 1))) Option.none), (.mk (Option.some 39) (.mv (.tmp 46)) Option.none)]))))))) (.seq (.region [(.mk (Option.some 47)
  (.mv (.tmp 6)) Option.none), (.mk (Option.some 48) (.buildSlice 1 1 [(.slice Option.none 0 0 0 0)] [(0, (1, (.tmp 47)))]) Option.none), (.mk (Option.some 49) (.call 265 [(.tmp
  48)]) Option.none), (.mk (Option.some 9) (.mv (.tmp 49)) Option.none)]) (.seq (.region [(.mk (Option.some 50) (.mv (.tmp 6)) Option.none), (.mk (Option.some 51) (.mv (.tmp 9))
  Option.none), (.mk (Option.some 52) (.bin .shr (.tmp 51) (.const (.int .u64 24))) Option.none), (.mk (Option.some 53) (.conv .u8 (.tmp 52)) Option.none), (.mk (Option.some 54)
  (.mv (.tmp 9)) Option.none), (.mk (Option.some 55) (.bin .shr (.tmp 54) (.const (.int .u64 16))) Option.none), (.mk (Option.some 56) (.conv .u8 (.tmp 55)) Option.none), (.mk
  (Option.some 57) (.mv (.tmp 9)) Option.none), (.mk (Option.some 58) (.bin .shr (.tmp 57) (.const (.int .u64 8))) Option.none), (.mk (Option.some 59) (.conv .u8 (.tmp 58))
  Option.none), (.mk (Option.some 60) (.mv (.tmp 9)) Option.none), (.mk (Option.some 61) (.conv .u8 (.tmp 60)) Option.none), (.mk (Option.some 62) (.buildSlice 4 1 [(.int .u8 0),
  (.int .u8 0), (.int .u8 0), (.int .u8 0)] [(0, (1, (.tmp 53))), (1, (1, (.tmp 56))), (2, (1, (.tmp 59))), (3, (1, (.tmp 61)))]) Option.none), (.mk (Option.some 63) (.append
  Bool.false 1 1 (.tmp 50) (.tmp 62)) Option.none), (.mk (Option.some 2) (.mv (.tmp 63)) Option.none)]) .ret))))))) 64 [(.tmp 2)])
def a161 : AFn :=
  (.mk (.seq (.region [(.mk (Option.some 4) (.mv (.const (.int .i64 0))) Option.none)]) (.seq (.seq (.region [(.mk (Option.some 7) (.mv (.tmp 0)) Option.none), (.mk (Option.some 8)
  (.mv (.tmp 1)) Option.none), (.mk (Option.some 9) (.call 262 [(.tmp 7), (.tmp 8), (.const (.bool Bool.false))]) Option.none), (.mk (Option.some 5) (.mv (.tmp 9)) Option.none)])
  (.seq (.region [(.mk (Option.some 10) (.mv (.tmp 5)) Option.none), (.mk (Option.some 11) (.eq (.iface Bool.true) Bool.true (.tmp 10) (.const .nilIface)) Option.none)]) (.cond
  (.tmp 11) (.seq (.region [(.mk (Option.some 12) (.mv (.tmp 5)) Option.none), (.mk (Option.some 13) (.call 67 [(.tmp 12)]) Option.none), (.mk (Option.some 4) (.mv (.tmp 13))
  Option.none)]) .ret) .skip))) (.seq (.region [(.mk (Option.some 14) (.mv (.tmp 0)) Option.none), (.mk (Option.some 15) (.nilCheck (.tmp 14)) Option.none), (.mk (Option.some 16)
  (.fieldAddr 1 (.tmp 15)) Option.none), (.mk (Option.some 17) (.load 1 Bool.false (.tmp 16)) Option.none), (.mk (Option.some 18) (.mv (.tmp 1)) Option.none), (.mk (Option.some 19)
  (.lookup (.int .i64) (.agg [(.slice Option.none 0 0 0 0), (.int .i64 0)]) Bool.false (.tmp 17) (.tmp 18)) Option.none), (.mk (Option.some 20) (.field 0 1 Bool.false (.tmp 19))
  Option.none), (.mk (Option.some 6) (.mv (.tmp 20)) Option.none)]) (.seq (.region [(.mk (Option.some 21) (.mv (.tmp 0)) Option.none), (.mk (Option.some 22) (.mv (.tmp 1))
  Option.none), (.mk (Option.some 23) (.mv (.tmp 6)) Option.none), (.mk (Option.some 24) (.mv (.tmp 6)) Option.none), (.mk (Option.some 25) (.len (.tmp 24)) Option.none), (.mk
  (Option.some 26) (.build [(.slice Option.none 0 0 0 0), (.int .i64 0)] [(0, (1, (.tmp 23))), (1, (1, (.tmp 25)))]) Option.none), (.mk (Option.some 27) (.call 264 [(.tmp 21),
  (.tmp 22), (.tmp 26)]) Option.none), (.mk (Option.some 4) (.mv (.tmp 27)) Option.none)]) .ret)))) 28 [(.tmp 4)])
def a164 : AFn :=
  (.mk (.seq (.region [(.mk (Option.some 2) (.mv (.const .nilIface)) Option.none)]) (.seq (.region [(.mk (Option.some 8) (.mv (.tmp 0)) Option.none), (.mk (Option.some 9) (.nilCheck
  (.tmp 8)) Option.none), (.mk (Option.some 10) (.fieldAddr 0 (.tmp 9)) Option.none), (.mk (Option.some 11) (.load 1 Bool.false (.tmp 10)) Option.none), (.mk (Option.some 12)
  (.call 84 [(.tmp 11)]) Option.none), (.mk (Option.some 3) (.mv (.tmp 12)) Option.none)]) (.seq (.seq (.region [(.mk (Option.some 13) (.mv (.tmp 3)) Option.none), (.mk
  (Option.some 14) (.len (.tmp 13)) Option.none), (.mk (Option.some 15) (.bin .sub (.tmp 14) (.const (.int .i64 1))) Option.none), (.mk (Option.some 4) (.mv (.tmp 15))
  Option.none)]) (.block 0 (.loop (.seq (.seq (.region [(.mk (Option.some 16) (.mv (.tmp 4)) Option.none), (.mk (Option.some 17) (.bin .geq (.tmp 16) (.const (.int .i64 0)))
  Option.none)]) (.cond (.tmp 17) .skip (.exit 0))) (.seq (.block 1 (.seq (.region [(.mk (Option.some 21) (.mv (.tmp 0)) Option.none), (.mk (Option.some 22) (.mv (.tmp 3))
  Option.none), (.mk (Option.some 23) (.mv (.tmp 4)) Option.none), (.mk (Option.some 24) (.atSlice 1 (.tmp 22) (.tmp 23)) Option.none), (.mk (Option.some 25) (.load 1 Bool.false
  (.tmp 24)) Option.none), (.mk (Option.some 26) (.call 267 [(.tmp 21), (.tmp 25)]) Option.none), (.mk (Option.some 20) (.mv (.tmp 26)) Option.none), (.mk (Option.some 27)
  (.extract (.tmp 20) 0) Option.none), (.mk (Option.some 28) (.extract (.tmp 20) 1) Option.none), (.mk (Option.some 5) (.mv (.tmp 27)) Option.none), (.mk (Option.some 6) (.mv (.tmp
  28)) Option.none)]) (.seq (.seq (.region [(.mk (Option.some 29) (.mv (.tmp 5)) Option.none), (.mk (Option.some 30) (.len (.tmp 29)) Option.none), (.mk (Option.some 31) (.bin .gtr
  (.tmp 30) (.const (.int .i64 0))) Option.none)]) (.cond (.tmp 31) (.seq (.region [(.mk (Option.some 32) (.mv (.tmp 0)) Option.none), (.mk (Option.some 33) (.mv (.tmp 3))
  Option.none), (.mk (Option.some 34) (.mv (.tmp 4)) Option.none), (.mk (Option.some 35) (.atSlice 1 (.tmp 33) (.tmp 34)) Option.none), (.mk (Option.some 36) (.load 1 Bool.false
  (.tmp 35)) Option.none), (.mk (Option.some 37) (.nilCheck (.tmp 32)) Option.none), (.mk (Option.some 38) (.fieldAddr 2 (.tmp 37)) Option.none), (.mk Option.none (.store 1 (.tmp
  38) (.tmp 36)) Option.none)]) (.seq (.seq (.draws [((.mk (Option.some 39) (.mv (.tmp 6)) Option.none), (0, 11)), ((.mk (Option.some 40) (.mv (.tmp 0)) Option.none), (0, 9)),
  ((.mk (Option.some 41) (.nilCheck (.tmp 40)) Option.none), (0, 9)), ((.mk (Option.some 42) (.fieldAddr 0 (.tmp 41)) Option.none), (0, 9)), ((.mk (Option.some 43) (.load 1
  Bool.false (.tmp 42)) Option.none), (0, 9)), ((.mk (Option.some 44) (.mv (.tmp 3)) Option.none), (0, 9)), ((.mk (Option.some 45) (.mv (.tmp 4)) Option.none), (0, 9)), ((.mk
  (Option.some 46) (.atSlice 1 (.tmp 44) (.tmp 45)) Option.none), (0, 9)), ((.mk (Option.some 47) (.load 1 Bool.false (.tmp 46)) Option.none), (0, 9)), ((.mk (Option.some 48)
  (.call 268 [(.tmp 43), (.tmp 47)]) Option.none), (0, 11)), ((.mk (Option.some 49) (.bin .lss (.tmp 39) (.tmp 48)) Option.none), (10, 11))]) (.cond (.tmp 49) (.seq (.draws [((.mk
  (Option.some 50) (.mv (.tmp 3)) Option.none), (0, 14)), ((.mk (Option.some 51) (.mv (.tmp 4)) Option.none), (0, 14)), ((.mk (Option.some 52) (.atSlice 1 (.tmp 50) (.tmp 51))
  Option.none), (0, 14)), ((.mk (Option.some 53) (.load 1 Bool.false (.tmp 52)) Option.none), (0, 14)), ((.mk (Option.some 54) (.mv (.tmp 0)) Option.none), (0, 13)), ((.mk
  (Option.some 55) (.nilCheck (.tmp 54)) Option.none), (0, 13)), ((.mk (Option.some 56) (.fieldAddr 0 (.tmp 55)) Option.none), (0, 13)), ((.mk (Option.some 57) (.load 1 Bool.false
  (.tmp 56)) Option.none), (0, 13)), ((.mk (Option.some 58) (.mv (.tmp 3)) Option.none), (0, 13)), ((.mk (Option.some 59) (.mv (.tmp 4)) Option.none), (0, 13)), ((.mk (Option.some
  60) (.atSlice 1 (.tmp 58) (.tmp 59)) Option.none), (0, 13)), ((.mk (Option.some 61) (.load 1 Bool.false (.tmp 60)) Option.none), (0, 13)), ((.mk (Option.some 62) (.mv (.tmp 6))
  Option.none), (0, 13)), ((.mk (Option.some 63) (.call 269 [(.tmp 57), (.tmp 61), (.tmp 62)]) Option.none), (0, 14)), ((.mk (Option.some 64) (.call 158 [(.tmp 53), (.tmp 63)])
  Option.none), (14, 16)), ((.mk (Option.some 2) (.mv (.tmp 64)) Option.none), (15, 16))]) .ret) .skip)) (.seq (.region [(.mk (Option.some 2) (.mv (.const .nilIface))
  Option.none)]) .ret))) .skip)) (.seq (.draws [((.mk (Option.some 65) (.mv (.tmp 3)) Option.none), (0, 13)), ((.mk (Option.some 66) (.mv (.tmp 4)) Option.none), (0, 13)), ((.mk
  (Option.some 67) (.atSlice 1 (.tmp 65) (.tmp 66)) Option.none), (0, 13)), ((.mk (Option.some 68) (.load 1 Bool.false (.tmp 67)) Option.none), (0, 13)), ((.mk (Option.some 69)
  (.mv (.tmp 0)) Option.none), (0, 12)), ((.mk (Option.some 70) (.nilCheck (.tmp 69)) Option.none), (0, 12)), ((.mk (Option.some 71) (.fieldAddr 0 (.tmp 70)) Option.none), (0,
  12)), ((.mk (Option.some 72) (.load 1 Bool.false (.tmp 71)) Option.none), (0, 12)), ((.mk (Option.some 73) (.mv (.tmp 3)) Option.none), (0, 12)), ((.mk (Option.some 74) (.mv
  (.tmp 4)) Option.none), (0, 12)), ((.mk (Option.some 75) (.atSlice 1 (.tmp 73) (.tmp 74)) Option.none), (0, 12)), ((.mk (Option.some 76) (.load 1 Bool.false (.tmp 75))
  Option.none), (0, 12)), ((.mk (Option.some 77) (.call 162 [(.tmp 72), (.tmp 76)]) Option.none), (0, 13)), ((.mk (Option.some 78) (.call 158 [(.tmp 68), (.tmp 77)]) Option.none),
  (13, 15)), ((.mk (Option.some 7) (.mv (.tmp 78)) Option.none), (14, 15))]) (.seq (.region [(.mk (Option.some 79) (.mv (.tmp 7)) Option.none), (.mk (Option.some 80) (.eq (.iface
  Bool.true) Bool.true (.tmp 79) (.const .nilIface)) Option.none)]) (.cond (.tmp 80) (.seq (.region [(.mk (Option.some 81) (.mv (.tmp 7)) Option.none), (.mk (Option.some 2) (.mv
  (.tmp 81)) Option.none)]) .ret) .skip)))))) (.region [(.mk (Option.some 18) (.mv (.tmp 4)) Option.none), (.mk (Option.some 19) (.bin .sub (.tmp 18) (.const (.int .i64 1)))
  Option.none), (.mk (Option.some 4) (.mv (.tmp 19)) Option.none)])))))) (.seq (.region [(.mk (Option.some 2) (.mv (.const .nilIface)) Option.none)]) .ret)))) 82 [(.tmp 2)])
end Go.Proofs.YtlaoookdegmnnaaGreatDoor
