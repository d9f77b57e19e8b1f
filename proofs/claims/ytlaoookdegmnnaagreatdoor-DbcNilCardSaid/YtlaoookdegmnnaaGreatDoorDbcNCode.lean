/- The functions of the seat as the abstract machine's code: no program in sight. -/
import Derived.Test.YtlaoookdegmnnaaGreatDoorAmDefs
namespace Go.Proofs.YtlaoookdegmnnaaGreatDoor
open Go.AM
set_option maxRecDepth 100000
def a5 : AFn :=
  (.mk (.seq (.region [(.mk (Option.some 3) (.box (.tmp 1)) Option.none), (.mk (Option.some 4) (.mv (.const (.bool Bool.false))) Option.none)]) (.seq (.region [(.mk (Option.some 5)
  (.mv (.const (.pointer Option.none))) Option.none)]) (.seq (.region [(.mk (Option.some 13) (.mv (.tmp 0)) Option.none), (.mk (Option.some 14) (.call 28 [(.const (.pointer
  Option.none)), (.tmp 13)]) Option.none), (.mk (Option.some 12) (.mv (.tmp 14)) Option.none), (.mk (Option.some 15) (.extract (.tmp 12) 0) Option.none), (.mk (Option.some 16)
  (.extract (.tmp 12) 1) Option.none), (.mk (Option.some 6) (.mv (.tmp 15)) Option.none), (.mk (Option.some 7) (.mv (.tmp 16)) Option.none)]) (.seq (.region [(.mk (Option.some 18)
  (.mv (.tmp 5)) Option.none), (.mk (Option.some 19) (.call 29 [(.tmp 18)]) Option.none), (.mk (Option.some 17) (.mv (.tmp 19)) Option.none), (.mk (Option.some 20) (.extract (.tmp
  17) 0) Option.none), (.mk (Option.some 21) (.extract (.tmp 17) 1) Option.none), (.mk (Option.some 8) (.mv (.tmp 20)) Option.none), (.mk (Option.some 9) (.mv (.tmp 21))
  Option.none)]) (.seq (.region [(.mk (Option.some 23) (.mv (.tmp 5)) Option.none), (.mk (Option.some 24) (.mv (.tmp 0)) Option.none), (.mk (Option.some 25) (.load 4 Bool.true
  (.tmp 3)) Option.none), (.mk (Option.some 26) (.call 30 [(.tmp 23), (.tmp 24), (.tmp 25)]) Option.none), (.mk (Option.some 22) (.mv (.tmp 26)) Option.none), (.mk (Option.some 27)
  (.extract (.tmp 22) 0) Option.none), (.mk (Option.some 28) (.extract (.tmp 22) 1) Option.none), (.mk (Option.some 10) (.mv (.tmp 27)) Option.none), (.mk (Option.some 11) (.mv
  (.tmp 28)) Option.none)]) (.seq (.region [(.mk (Option.some 29) (.mv (.tmp 6)) Option.none), (.mk (Option.some 30) (.eq .ptr Bool.false (.tmp 29) (.const (.pointer Option.none)))
  Option.none), (.mk (Option.some 31) (.mv (.tmp 30)) Option.none), (.mk (Option.some 32) (.mv (.tmp 7)) (Option.some (31, Bool.true))), (.mk (Option.some 33) (.bin .eql (.tmp 32)
  (.const (.int .i64 1))) (Option.some (31, Bool.true))), (.mk (Option.some 34) (.pick (.tmp 31) (.tmp 33) (.const (.bool Bool.false))) Option.none), (.mk (Option.some 35) (.mv
  (.tmp 34)) Option.none), (.mk (Option.some 36) (.mv (.tmp 9)) (Option.some (35, Bool.true))), (.mk (Option.some 37) (.bin .eql (.tmp 36) (.const (.int .i64 1))) (Option.some (35,
  Bool.true))), (.mk (Option.some 38) (.pick (.tmp 35) (.tmp 37) (.const (.bool Bool.false))) Option.none), (.mk (Option.some 39) (.mv (.tmp 38)) Option.none), (.mk (Option.some
  40) (.mv (.tmp 11)) (Option.some (39, Bool.true))), (.mk (Option.some 41) (.bin .eql (.tmp 40) (.const (.int .i64 1))) (Option.some (39, Bool.true))), (.mk (Option.some 42)
  (.pick (.tmp 39) (.tmp 41) (.const (.bool Bool.false))) Option.none), (.mk (Option.some 43) (.mv (.tmp 42)) Option.none), (.mk (Option.some 44) (.mv (.tmp 5)) (Option.some (43,
  Bool.true))), (.mk (Option.some 45) (.mv (.tmp 0)) (Option.some (43, Bool.true))), (.mk (Option.some 46) (.call 31 [(.tmp 44), (.tmp 45)]) (Option.some (43, Bool.true))), (.mk
  (Option.some 47) (.bin .eql (.tmp 46) (.const (.int .i64 1))) (Option.some (43, Bool.true))), (.mk (Option.some 48) (.pick (.tmp 43) (.tmp 47) (.const (.bool Bool.false)))
  Option.none), (.mk (Option.some 49) (.mv (.tmp 48)) Option.none), (.mk (Option.some 50) (.mv (.tmp 5)) (Option.some (49, Bool.true))), (.mk (Option.some 51) (.mv (.tmp 0))
  (Option.some (49, Bool.true))), (.mk (Option.some 52) (.call 32 [(.tmp 50), (.tmp 51)]) (Option.some (49, Bool.true))), (.mk (Option.some 53) (.bin .eql (.tmp 52) (.const (.int
  .i64 1))) (Option.some (49, Bool.true))), (.mk (Option.some 54) (.pick (.tmp 49) (.tmp 53) (.const (.bool Bool.false))) Option.none), (.mk (Option.some 55) (.mv (.tmp 54))
  Option.none), (.mk (Option.some 56) (.mv (.tmp 5)) (Option.some (55, Bool.true))), (.mk (Option.some 57) (.call 33 [(.tmp 56)]) (Option.some (55, Bool.true))), (.mk (Option.some
  58) (.bin .eql (.tmp 57) (.const (.int .i64 1))) (Option.some (55, Bool.true))), (.mk (Option.some 59) (.pick (.tmp 55) (.tmp 58) (.const (.bool Bool.false))) Option.none), (.mk
  (Option.some 60) (.mv (.tmp 59)) Option.none), (.mk (Option.some 61) (.mv (.tmp 5)) (Option.some (60, Bool.true))), (.mk (Option.some 62) (.call 34 [(.tmp 61)]) (Option.some (60,
  Bool.true))), (.mk (Option.some 63) (.len (.tmp 62)) (Option.some (60, Bool.true))), (.mk (Option.some 64) (.bin .eql (.tmp 63) (.const (.int .i64 0))) (Option.some (60,
  Bool.true))), (.mk (Option.some 65) (.pick (.tmp 60) (.tmp 64) (.const (.bool Bool.false))) Option.none), (.mk (Option.some 66) (.mv (.tmp 65)) Option.none), (.mk (Option.some
  67) (.mv (.tmp 5)) (Option.some (66, Bool.true))), (.mk (Option.some 68) (.call 35 [(.tmp 67)]) (Option.some (66, Bool.true))), (.mk (Option.some 69) (.len (.tmp 68))
  (Option.some (66, Bool.true))), (.mk (Option.some 70) (.bin .eql (.tmp 69) (.const (.int .i64 0))) (Option.some (66, Bool.true))), (.mk (Option.some 71) (.pick (.tmp 66) (.tmp
  70) (.const (.bool Bool.false))) Option.none), (.mk (Option.some 72) (.mv (.tmp 71)) Option.none), (.mk (Option.some 73) (.mv (.tmp 5)) (Option.some (72, Bool.true))), (.mk
  (Option.some 74) (.call 36 [(.tmp 73)]) (Option.some (72, Bool.true))), (.mk (Option.some 75) (.len (.tmp 74)) (Option.some (72, Bool.true))), (.mk (Option.some 76) (.bin .eql
  (.tmp 75) (.const (.int .i64 0))) (Option.some (72, Bool.true))), (.mk (Option.some 77) (.pick (.tmp 72) (.tmp 76) (.const (.bool Bool.false))) Option.none), (.mk (Option.some
  78) (.mv (.tmp 77)) Option.none), (.mk (Option.some 79) (.mv (.tmp 5)) (Option.some (78, Bool.true))), (.mk (Option.some 80) (.call 37 [(.tmp 79)]) (Option.some (78,
  Bool.true))), (.mk (Option.some 81) (.bin .eql (.tmp 80) (.const (.int .i64 0))) (Option.some (78, Bool.true))), (.mk (Option.some 82) (.pick (.tmp 78) (.tmp 81) (.const (.bool
  Bool.false))) Option.none), (.mk (Option.some 83) (.mv (.tmp 82)) Option.none), (.mk (Option.some 84) (.mv (.tmp 5)) (Option.some (83, Bool.true))), (.mk (Option.some 85) (.call
  38 [(.tmp 84)]) (Option.some (83, Bool.true))), (.mk (Option.some 86) (.bin .eql (.tmp 85) (.const (.int .i64 0))) (Option.some (83, Bool.true))), (.mk (Option.some 87) (.pick
  (.tmp 83) (.tmp 86) (.const (.bool Bool.false))) Option.none), (.mk (Option.some 88) (.mv (.tmp 87)) Option.none), (.mk (Option.some 89) (.call 39 []) (Option.some (88,
  Bool.true))), (.mk (Option.some 90) (.pick (.tmp 88) (.tmp 89) (.const (.bool Bool.false))) Option.none), (.mk (Option.some 4) (.mv (.tmp 90)) Option.none)]) .ret)))))) 91 [(.tmp
  4)])
def a15 : AFn :=
  (.mk (.seq (.region [(.mk (Option.some 6) (.mv (.const (.int .i64 0))) Option.none)]) (.seq (.seq (.region [(.mk (Option.some 9) (.mv (.tmp 0)) Option.none), (.mk (Option.some 10)
  (.eq .ptr Bool.false (.tmp 9) (.const (.pointer Option.none))) Option.none)]) (.cond (.tmp 10) (.seq (.region [(.mk (Option.some 6) (.mv (.const (.int .i64 1))) Option.none)])
  .ret) .skip)) (.seq (.seq (.region [(.mk (Option.some 11) (.mv (.tmp 0)) Option.none), (.mk (Option.some 12) (.mv (.tmp 1)) Option.none), (.mk (Option.some 13) (.mv (.tmp 2))
  Option.none), (.mk (Option.some 14) (.call 66 [(.tmp 11), (.tmp 12), (.tmp 13)]) Option.none), (.mk (Option.some 7) (.mv (.tmp 14)) Option.none)]) (.seq (.region [(.mk
  (Option.some 15) (.mv (.tmp 7)) Option.none), (.mk (Option.some 16) (.eq (.iface Bool.true) Bool.true (.tmp 15) (.const .nilIface)) Option.none)]) (.cond (.tmp 16) (.seq (.region
  [(.mk (Option.some 17) (.mv (.tmp 7)) Option.none), (.mk (Option.some 18) (.call 67 [(.tmp 17)]) Option.none), (.mk (Option.some 6) (.mv (.tmp 18)) Option.none)]) .ret) .skip)))
  (.seq (.seq (.draws [((.mk (Option.some 19) (.mv (.tmp 0)) Option.none), (0, 8)), ((.mk (Option.some 20) (.nilCheck (.tmp 19)) Option.none), (0, 8)), ((.mk (Option.some 21)
  (.fieldAddr 0 (.tmp 20)) Option.none), (0, 8)), ((.mk (Option.some 22) (.load 1 Bool.false (.tmp 21)) Option.none), (0, 8)), ((.mk (Option.some 23) (.mv (.tmp 1)) Option.none),
  (0, 6)), ((.mk (Option.some 24) (.mv (.tmp 2)) Option.none), (0, 6)), ((.mk (Option.some 25) (.call 69 [(.tmp 23), (.tmp 24)]) Option.none), (0, 7)), ((.mk (Option.some 26)
  (.buildSlice 1 1 [(.slice Option.none 0 0 0 0)] [(0, (1, (.tmp 25)))]) Option.none), (7, 8)), ((.mk (Option.some 27) (.call 68 [(.tmp 22), (.tmp 26)]) Option.none), (8, 10)),
  ((.mk (Option.some 8) (.mv (.tmp 27)) Option.none), (9, 10))]) (.seq (.region [(.mk (Option.some 28) (.mv (.tmp 8)) Option.none), (.mk (Option.some 29) (.bin .neq (.tmp 28)
  (.const (.int .i64 0))) Option.none)]) (.cond (.tmp 29) (.seq (.region [(.mk (Option.some 30) (.mv (.tmp 8)) Option.none), (.mk (Option.some 6) (.mv (.tmp 30)) Option.none)])
  .ret) .skip))) (.seq (.region [(.mk (Option.some 31) (.mv (.tmp 0)) Option.none), (.mk (Option.some 32) (.nilCheck (.tmp 31)) Option.none), (.mk (Option.some 33) (.fieldAddr 4
  (.tmp 32)) Option.none), (.mk (Option.some 34) (.load 1 Bool.false (.tmp 33)) Option.none), (.mk (Option.some 35) (.bin .add (.tmp 34) (.const (.int .i64 1))) Option.none), (.mk
  (Option.some 36) (.nilCheck (.tmp 31)) Option.none), (.mk (Option.some 37) (.fieldAddr 4 (.tmp 36)) Option.none), (.mk Option.none (.store 1 (.tmp 37) (.tmp 35)) Option.none)])
  (.seq (.region [(.mk (Option.some 38) (.mv (.tmp 0)) Option.none), (.mk (Option.some 39) (.mv (.tmp 0)) Option.none), (.mk (Option.some 40) (.nilCheck (.tmp 39)) Option.none),
  (.mk (Option.some 41) (.fieldAddr 4 (.tmp 40)) Option.none), (.mk (Option.some 42) (.load 1 Bool.false (.tmp 41)) Option.none), (.mk (Option.some 43) (.mv (.tmp 1)) Option.none),
  (.mk (Option.some 44) (.mv (.tmp 2)) Option.none), (.mk (Option.some 45) (.call 70 [(.tmp 38), (.tmp 42), (.tmp 43), (.tmp 44)]) Option.none)]) (.seq (.region [(.mk (Option.some
  6) (.mv (.const (.int .i64 0))) Option.none)]) .ret))))))) 46 [(.tmp 6)])
def a24 : AFn :=
  (.mk (.seq (.region [(.mk (Option.some 4) (.mv (.const (.pointer Option.none))) Option.none), (.mk (Option.some 5) (.mv (.const (.int .i64 0))) Option.none)]) (.seq (.region [(.mk
  (Option.some 15) (.mv (.tmp 0)) Option.none), (.mk (Option.some 16) (.mv (.tmp 1)) Option.none), (.mk (Option.some 17) (.call 78 [(.tmp 15), (.tmp 16)]) Option.none), (.mk
  (Option.some 14) (.mv (.tmp 17)) Option.none), (.mk (Option.some 18) (.extract (.tmp 14) 0) Option.none), (.mk (Option.some 19) (.extract (.tmp 14) 1) Option.none), (.mk
  (Option.some 6) (.mv (.tmp 18)) Option.none), (.mk (Option.some 7) (.mv (.tmp 19)) Option.none)]) (.seq (.seq (.region [(.mk (Option.some 20) (.mv (.tmp 7)) Option.none), (.mk
  (Option.some 21) (.bin .neq (.tmp 20) (.const (.int .i64 0))) Option.none)]) (.cond (.tmp 21) (.seq (.region [(.mk (Option.some 22) (.mv (.tmp 7)) Option.none), (.mk (Option.some
  4) (.mv (.const (.pointer Option.none))) Option.none), (.mk (Option.some 5) (.mv (.tmp 22)) Option.none)]) .ret) .skip)) (.seq (.region [(.mk (Option.some 23) (.mv (.tmp 6))
  Option.none), (.mk (Option.some 24) .mkMap Option.none), (.mk (Option.some 25) (.build [(.ptr Option.none), (.map Option.none), (.int .i64 0), (.int .i64 0), (.int .i64 0)] [(0,
  (1, (.tmp 23))), (1, (1, (.tmp 24)))]) Option.none), (.mk (Option.some 26) (.box (.tmp 25)) Option.none), (.mk (Option.some 8) (.mv (.tmp 26)) Option.none)]) (.seq (.seq (.region
  [(.mk (Option.some 27) (.mv (.tmp 6)) Option.none), (.mk (Option.some 28) (.call 79 [(.tmp 27)]) Option.none), (.mk (Option.some 9) (.mv (.tmp 28)) Option.none)]) (.seq (.region
  [(.mk (Option.some 29) (.mv (.tmp 9)) Option.none), (.mk (Option.some 30) (.len (.tmp 29)) Option.none), (.mk (Option.some 31) (.bin .gtr (.tmp 30) (.const (.int .i64 0)))
  Option.none)]) (.cond (.tmp 31) (.seq (.region [(.mk (Option.some 32) (.mv (.tmp 8)) Option.none), (.mk (Option.some 33) (.mv (.tmp 9)) Option.none), (.mk (Option.some 34) (.call
  80 [(.tmp 32), (.const (.int .i64 0)), (.tmp 33)]) Option.none), (.mk (Option.some 10) (.mv (.tmp 34)) Option.none)]) (.seq (.region [(.mk (Option.some 35) (.mv (.tmp 10))
  Option.none), (.mk (Option.some 36) (.eq (.iface Bool.true) Bool.true (.tmp 35) (.const .nilIface)) Option.none)]) (.cond (.tmp 36) (.seq (.region [(.mk (Option.some 4) (.mv
  (.const (.pointer Option.none))) Option.none), (.mk (Option.some 5) (.mv (.const (.int .i64 6))) Option.none)]) .ret) .skip))) .skip))) (.seq (.seq (.region [(.mk (Option.some
  37) (.mv (.tmp 6)) Option.none), (.mk (Option.some 38) (.call 81 [(.tmp 37)]) Option.none), (.mk (Option.some 39) (.len (.tmp 38)) Option.none), (.mk (Option.some 40) (.mv
  (.const (.int .i64 0))) Option.none)]) (.block 0 (.loop (.seq (.region [(.mk (Option.some 41) (.bin .lss (.tmp 40) (.tmp 39)) Option.none)]) (.seq (.cond (.tmp 41) .skip (.exit
  0)) (.seq (.block 1 (.seq (.region [(.mk (Option.some 42) (.mv (.tmp 40)) Option.none), (.mk (Option.some 43) (.atSlice 1 (.tmp 38) (.tmp 40)) Option.none), (.mk (Option.some 44)
  (.load 1 Bool.false (.tmp 43)) Option.none), (.mk (Option.some 11) (.mv (.tmp 42)) Option.none), (.mk (Option.some 12) (.mv (.tmp 44)) Option.none)]) (.seq (.region [(.mk
  (Option.some 45) (.mv (.tmp 11)) Option.none), (.mk (Option.some 46) (.mv (.tmp 8)) Option.none), (.mk (Option.some 47) (.mv (.tmp 11)) Option.none), (.mk (Option.some 48) (.bin
  .add (.tmp 47) (.const (.int .i64 1))) Option.none), (.mk (Option.some 49) (.mv (.tmp 12)) Option.none), (.mk (Option.some 50) (.call 80 [(.tmp 46), (.tmp 48), (.tmp 49)])
  Option.none), (.mk (Option.some 51) (.call 82 [(.tmp 45), (.tmp 50)]) Option.none), (.mk (Option.some 13) (.mv (.tmp 51)) Option.none)]) (.seq (.region [(.mk (Option.some 52)
  (.mv (.tmp 13)) Option.none), (.mk (Option.some 53) (.eq (.iface Bool.true) Bool.true (.tmp 52) (.const .nilIface)) Option.none)]) (.cond (.tmp 53) (.seq (.region [(.mk
  (Option.some 4) (.mv (.const (.pointer Option.none))) Option.none), (.mk (Option.some 5) (.mv (.const (.int .i64 6))) Option.none)]) .ret) .skip))))) (.region [(.mk (Option.some
  54) (.bin .add (.tmp 40) (.const (.int .i64 1))) Option.none), (.mk (Option.some 40) (.mv (.tmp 54)) Option.none)]))))))) (.seq (.region [(.mk (Option.some 55) (.mv (.tmp 8))
  Option.none), (.mk (Option.some 56) (.mv (.tmp 6)) Option.none), (.mk (Option.some 57) (.call 83 [(.tmp 56)]) Option.none), (.mk (Option.some 58) (.nilCheck (.tmp 55))
  Option.none), (.mk (Option.some 59) (.fieldAddr 4 (.tmp 58)) Option.none), (.mk Option.none (.store 1 (.tmp 59) (.tmp 57)) Option.none)]) (.seq (.region [(.mk (Option.some 60)
  (.mv (.tmp 8)) Option.none), (.mk (Option.some 4) (.mv (.tmp 60)) Option.none), (.mk (Option.some 5) (.mv (.const (.int .i64 0))) Option.none)]) .ret)))))))) 61 [(.tmp 4), (.tmp
  5)])
def a27 : AFn :=
  (.mk (.seq (.region [(.mk (Option.some 2) (.mv (.const (.slice Option.none 0 0))) Option.none)]) (.seq (.seq (.region [(.mk (Option.some 6) (.mv (.tmp 0)) Option.none), (.mk
  (Option.some 7) (.eq .ptr Bool.false (.tmp 6) (.const (.pointer Option.none))) Option.none)]) (.cond (.tmp 7) (.seq (.region [(.mk (Option.some 2) (.mv (.const (.slice
  Option.none 0 0))) Option.none)]) .ret) .skip)) (.seq (.region [(.mk (Option.some 3) (.mv (.const (.slice Option.none 0 0))) Option.none)]) (.seq (.seq (.region [(.mk
  (Option.some 8) (.mv (.tmp 0)) Option.none), (.mk (Option.some 9) (.call 76 [(.tmp 8)]) Option.none), (.mk (Option.some 10) (.len (.tmp 9)) Option.none), (.mk (Option.some 11)
  (.mv (.const (.int .i64 0))) Option.none)]) (.block 0 (.loop (.seq (.region [(.mk (Option.some 12) (.bin .lss (.tmp 11) (.tmp 10)) Option.none)]) (.seq (.cond (.tmp 12) .skip
  (.exit 0)) (.seq (.block 1 (.seq (.region [(.mk (Option.some 13) (.atSlice 3 (.tmp 9) (.tmp 11)) Option.none), (.mk (Option.some 14) (.load 3 Bool.true (.tmp 13)) Option.none),
  (.mk (Option.some 5) (.alloc [(.str []), (.int .i64 0), (.bool Bool.false)]) Option.none), (.mk Option.none (.store 3 (.tmp 5) (.tmp 14)) Option.none)]) (.region [(.mk
  (Option.some 15) (.mv (.tmp 3)) Option.none), (.mk (Option.some 16) (.fieldAddr 0 (.tmp 5)) Option.none), (.mk (Option.some 17) (.load 1 Bool.false (.tmp 16)) Option.none), (.mk
  (Option.some 18) (.fieldAddr 1 (.tmp 5)) Option.none), (.mk (Option.some 19) (.load 1 Bool.false (.tmp 18)) Option.none), (.mk (Option.some 20) (.build [(.str []), (.int .i64 0)]
  [(0, (1, (.tmp 17))), (1, (1, (.tmp 19)))]) Option.none), (.mk (Option.some 21) (.buildSlice 1 2 [(.str []), (.int .i64 0)] [(0, (2, (.tmp 20)))]) Option.none), (.mk (Option.some
  22) (.append Bool.false 2 24 (.tmp 15) (.tmp 21)) Option.none), (.mk (Option.some 3) (.mv (.tmp 22)) Option.none)]))) (.region [(.mk (Option.some 23) (.bin .add (.tmp 11) (.const
  (.int .i64 1))) Option.none), (.mk (Option.some 11) (.mv (.tmp 23)) Option.none)]))))))) (.seq (.region [(.mk (Option.some 24) (.mv (.tmp 3)) Option.none), (.mk (Option.some 2)
  (.mv (.tmp 24)) Option.none)]) .ret))))) 25 [(.tmp 2)])
def a28 : AFn :=
  (.mk (.seq (.region [(.mk (Option.some 4) (.mv (.const (.pointer Option.none))) Option.none), (.mk (Option.some 5) (.mv (.const (.int .i64 0))) Option.none)]) (.seq (.region [(.mk
  (Option.some 9) (.mv (.tmp 0)) Option.none), (.mk (Option.some 10) (.mv (.tmp 1)) Option.none), (.mk (Option.some 11) (.call 24 [(.tmp 9), (.tmp 10)]) Option.none), (.mk
  (Option.some 8) (.mv (.tmp 11)) Option.none), (.mk (Option.some 12) (.extract (.tmp 8) 0) Option.none), (.mk (Option.some 13) (.extract (.tmp 8) 1) Option.none), (.mk
  (Option.some 6) (.mv (.tmp 12)) Option.none), (.mk (Option.some 7) (.mv (.tmp 13)) Option.none)]) (.seq (.seq (.region [(.mk (Option.some 14) (.mv (.tmp 7)) Option.none), (.mk
  (Option.some 15) (.bin .neq (.tmp 14) (.const (.int .i64 0))) Option.none)]) (.cond (.tmp 15) (.seq (.region [(.mk (Option.some 16) (.mv (.tmp 7)) Option.none), (.mk (Option.some
  4) (.mv (.const (.pointer Option.none))) Option.none), (.mk (Option.some 5) (.mv (.tmp 16)) Option.none)]) .ret) .skip)) (.seq (.region [(.mk (Option.some 17) (.mv (.tmp 6))
  Option.none), (.mk (Option.some 18) (.call 86 []) Option.none), (.mk (Option.some 19) .mkMap Option.none), (.mk (Option.some 20) (.mv (.tmp 6)) Option.none), (.mk (Option.some
  21) (.call 73 [(.tmp 20)]) Option.none), (.mk (Option.some 22) (.bin .add (.tmp 21) (.const (.int .i64 1))) Option.none), (.mk (Option.some 23) (.build [(.ptr Option.none), (.ptr
  Option.none), (.map Option.none), (.slice Option.none 0 0 0 0), (.int .i64 0)] [(0, (1, (.tmp 17))), (1, (1, (.tmp 18))), (2, (1, (.tmp 19))), (4, (1, (.tmp 22)))]) Option.none),
  (.mk (Option.some 24) (.box (.tmp 23)) Option.none), (.mk (Option.some 4) (.mv (.tmp 24)) Option.none), (.mk (Option.some 5) (.mv (.const (.int .i64 0))) Option.none)]) .ret))))
  25 [(.tmp 4), (.tmp 5)])
def a29 : AFn :=
  (.mk (.seq (.region [(.mk (Option.some 2) (.mv (.const (.int .i64 0))) Option.none), (.mk (Option.some 3) (.mv (.const (.int .i64 0))) Option.none)]) (.seq (.block 0 (.seq (.region
  [(.mk (Option.some 6) (.mv (.tmp 0)) Option.none), (.mk (Option.some 7) (.eq .ptr Bool.false (.tmp 6) (.const (.pointer Option.none))) Option.none), (.mk (Option.some 5) (.mv
  (.tmp 7)) Option.none)]) (.cond (.tmp 5) (.seq (.region [(.mk (Option.some 2) (.mv (.const (.int .i64 0))) Option.none), (.mk (Option.some 3) (.mv (.const (.int .i64 1)))
  Option.none)]) .ret) (.seq (.region [(.mk (Option.some 9) (.mv (.tmp 0)) Option.none), (.mk (Option.some 10) (.nilCheck (.tmp 9)) Option.none), (.mk (Option.some 11) (.fieldAddr
  2 (.tmp 10)) Option.none), (.mk (Option.some 12) (.load 1 Bool.false (.tmp 11)) Option.none), (.mk (Option.some 13) (.lenMap (.tmp 12)) Option.none), (.mk (Option.some 14) (.bin
  .geq (.tmp 13) (.const (.int .i64 32))) Option.none), (.mk (Option.some 15) (.mv (.tmp 14)) Option.none), (.mk (Option.some 16) (.mv (.tmp 0)) (Option.some (15, Bool.false))),
  (.mk (Option.some 17) (.nilCheck (.tmp 16)) (Option.some (15, Bool.false))), (.mk (Option.some 18) (.fieldAddr 4 (.tmp 17)) (Option.some (15, Bool.false))), (.mk (Option.some 19)
  (.load 1 Bool.false (.tmp 18)) (Option.some (15, Bool.false))), (.mk (Option.some 20) (.bin .gtr (.tmp 19) (.const (.int .i64 1073741824))) (Option.some (15, Bool.false))), (.mk
  (Option.some 21) (.pick (.tmp 15) (.const (.bool Bool.true)) (.tmp 20)) Option.none), (.mk (Option.some 8) (.mv (.tmp 21)) Option.none)]) (.cond (.tmp 8) (.seq (.region [(.mk
  (Option.some 2) (.mv (.const (.int .i64 0))) Option.none), (.mk (Option.some 3) (.mv (.const (.int .i64 5))) Option.none)]) .ret) .skip))))) (.seq (.region [(.mk (Option.some 22)
  (.mv (.tmp 0)) Option.none), (.mk (Option.some 23) (.nilCheck (.tmp 22)) Option.none), (.mk (Option.some 24) (.fieldAddr 4 (.tmp 23)) Option.none), (.mk (Option.some 25) (.load 1
  Bool.false (.tmp 24)) Option.none), (.mk (Option.some 4) (.mv (.tmp 25)) Option.none)]) (.seq (.region [(.mk (Option.some 26) (.mv (.tmp 0)) Option.none), (.mk (Option.some 27)
  (.nilCheck (.tmp 26)) Option.none), (.mk (Option.some 28) (.fieldAddr 4 (.tmp 27)) Option.none), (.mk (Option.some 29) (.load 1 Bool.false (.tmp 28)) Option.none), (.mk
  (Option.some 30) (.bin .add (.tmp 29) (.const (.int .i64 1))) Option.none), (.mk (Option.some 31) (.nilCheck (.tmp 26)) Option.none), (.mk (Option.some 32) (.fieldAddr 4 (.tmp
  31)) Option.none), (.mk Option.none (.store 1 (.tmp 32) (.tmp 30)) Option.none)]) (.seq (.draws [((.mk (Option.some 33) (.mv (.tmp 0)) Option.none), (0, 13)), ((.mk (Option.some
  34) (.nilCheck (.tmp 33)) Option.none), (0, 13)), ((.mk (Option.some 35) (.fieldAddr 2 (.tmp 34)) Option.none), (0, 13)), ((.mk (Option.some 36) (.load 1 Bool.false (.tmp 35))
  Option.none), (0, 13)), ((.mk (Option.some 37) (.mv (.tmp 4)) Option.none), (0, 13)), ((.mk (Option.some 38) (.mv (.tmp 0)) Option.none), (0, 12)), ((.mk (Option.some 39)
  (.nilCheck (.tmp 38)) Option.none), (0, 12)), ((.mk (Option.some 40) (.fieldAddr 1 (.tmp 39)) Option.none), (0, 12)), ((.mk (Option.some 41) (.load 1 Bool.false (.tmp 40))
  Option.none), (0, 12)), ((.mk (Option.some 42) (.qcall 87 [(.tmp 41)]) Option.none), (0, 12)), ((.mk (Option.some 43) .mkMap Option.none), (0, 12)), ((.mk (Option.some 44)
  (.build [(.int .i64 0), (.slice Option.none 0 0 0 0), (.map Option.none)] [(0, (1, (.tmp 42))), (2, (1, (.tmp 43)))]) Option.none), (11, 12)), ((.mk (Option.some 45) (.box (.tmp
  44)) Option.none), (11, 13)), ((.mk Option.none (.mapPut (.int .i64) (.tmp 36) (.tmp 37) (.tmp 45)) Option.none), (13, 14))]) (.seq (.region [(.mk (Option.some 46) (.mv (.tmp 4))
  Option.none), (.mk (Option.some 2) (.mv (.tmp 46)) Option.none), (.mk (Option.some 3) (.mv (.const (.int .i64 0))) Option.none)]) .ret)))))) 47 [(.tmp 2), (.tmp 3)])
def a30 : AFn :=
  (.mk (.seq (.region [(.mk (Option.some 5) (.box (.tmp 2)) Option.none), (.mk (Option.some 6) (.mv (.const (.int .i64 0))) Option.none), (.mk (Option.some 7) (.mv (.const (.int .i64
  0))) Option.none)]) (.seq (.region [(.mk (Option.some 17) (.mv (.tmp 0)) Option.none), (.mk (Option.some 18) (.mv (.tmp 1)) Option.none), (.mk (Option.some 19) (.call 88 [(.tmp
  17), (.tmp 18)]) Option.none), (.mk (Option.some 16) (.mv (.tmp 19)) Option.none), (.mk (Option.some 20) (.extract (.tmp 16) 0) Option.none), (.mk (Option.some 21) (.extract
  (.tmp 16) 1) Option.none), (.mk (Option.some 8) (.mv (.tmp 20)) Option.none), (.mk (Option.some 9) (.mv (.tmp 21)) Option.none)]) (.seq (.seq (.region [(.mk (Option.some 22) (.mv
  (.tmp 9)) Option.none), (.mk (Option.some 23) (.eq (.iface Bool.true) Bool.false (.tmp 22) (.const .nilIface)) Option.none), (.mk (Option.some 24) (.mv (.tmp 23)) Option.none),
  (.mk (Option.some 25) (.load 4 Bool.true (.tmp 5)) (Option.some (24, Bool.true))), (.mk (Option.some 26) (.call 89 [(.tmp 25)]) (Option.some (24, Bool.true))), (.mk (Option.some
  27) (.un .not (.tmp 26)) (Option.some (24, Bool.true))), (.mk (Option.some 28) (.pick (.tmp 24) (.tmp 27) (.const (.bool Bool.false))) Option.none)]) (.cond (.tmp 28) (.region
  [(.mk (Option.some 29) (.call 90 [(.const (.int .i64 2))]) Option.none), (.mk (Option.some 9) (.mv (.tmp 29)) Option.none)]) .skip)) (.seq (.seq (.region [(.mk (Option.some 30)
  (.mv (.tmp 9)) Option.none), (.mk (Option.some 31) (.eq (.iface Bool.true) Bool.true (.tmp 30) (.const .nilIface)) Option.none)]) (.cond (.tmp 31) (.seq (.region [(.mk
  (Option.some 32) (.mv (.tmp 9)) Option.none), (.mk (Option.some 33) (.call 67 [(.tmp 32)]) Option.none), (.mk (Option.some 6) (.mv (.const (.int .i64 0))) Option.none), (.mk
  (Option.some 7) (.mv (.tmp 33)) Option.none)]) .ret) .skip)) (.seq (.region [(.mk (Option.some 10) (.mv (.const (.int .i64 0))) Option.none), (.mk (Option.some 11) (.mv (.const
  (.bool Bool.false))) Option.none)]) (.seq (.seq (.region [(.mk (Option.some 34) (.fieldAddr 0 (.tmp 5)) Option.none), (.mk (Option.some 35) (.load 1 Bool.false (.tmp 34))
  Option.none), (.mk (Option.some 36) (.bin .neq (.tmp 35) (.const (.int .i64 2))) Option.none)]) (.cond (.tmp 36) (.region [(.mk (Option.some 38) (.mv (.tmp 0)) Option.none), (.mk
  (Option.some 39) (.mv (.tmp 8)) Option.none), (.mk (Option.some 40) (.fieldAddr 1 (.tmp 5)) Option.none), (.mk (Option.some 41) (.load 1 Bool.false (.tmp 40)) Option.none), (.mk
  (Option.some 42) (.call 91 [(.tmp 38), (.tmp 39), (.tmp 41)]) Option.none), (.mk (Option.some 37) (.mv (.tmp 42)) Option.none), (.mk (Option.some 43) (.extract (.tmp 37) 0)
  Option.none), (.mk (Option.some 44) (.extract (.tmp 37) 1) Option.none), (.mk (Option.some 10) (.mv (.tmp 43)) Option.none), (.mk (Option.some 11) (.mv (.tmp 44)) Option.none)])
  .skip)) (.seq (.region [(.mk (Option.some 46) (.load 4 Bool.true (.tmp 5)) Option.none), (.mk (Option.some 47) (.mv (.tmp 10)) Option.none), (.mk (Option.some 48) (.mv (.tmp 11))
  Option.none), (.mk (Option.some 49) (.call 92 [(.tmp 46), (.tmp 47), (.tmp 48)]) Option.none), (.mk (Option.some 45) (.mv (.tmp 49)) Option.none), (.mk (Option.some 50) (.extract
  (.tmp 45) 0) Option.none), (.mk (Option.some 51) (.extract (.tmp 45) 1) Option.none), (.mk (Option.some 52) (.extract (.tmp 45) 2) Option.none), (.mk (Option.some 53) (.extract
  (.tmp 45) 3) Option.none), (.mk (Option.some 12) (.mv (.tmp 50)) Option.none), (.mk (Option.some 13) (.mv (.tmp 51)) Option.none), (.mk (Option.some 14) (.mv (.tmp 52))
  Option.none), (.mk (Option.some 15) (.mv (.tmp 53)) Option.none)]) (.seq (.seq (.region [(.mk (Option.some 54) (.mv (.tmp 15)) Option.none), (.mk (Option.some 55) (.bin .neq
  (.tmp 54) (.const (.int .i64 0))) Option.none)]) (.cond (.tmp 55) (.seq (.region [(.mk (Option.some 56) (.mv (.tmp 15)) Option.none), (.mk (Option.some 6) (.mv (.const (.int .i64
  0))) Option.none), (.mk (Option.some 7) (.mv (.tmp 56)) Option.none)]) .ret) .skip)) (.seq (.seq (.region [(.mk (Option.some 57) (.fieldAddr 0 (.tmp 5)) Option.none), (.mk
  (Option.some 58) (.load 1 Bool.false (.tmp 57)) Option.none), (.mk (Option.some 59) (.bin .eql (.tmp 58) (.const (.int .i64 2))) Option.none), (.mk (Option.some 60) (.mv (.tmp
  59)) Option.none), (.mk (Option.some 61) (.mv (.tmp 12)) (Option.some (60, Bool.false))), (.mk (Option.some 62) (.mv (.tmp 10)) (Option.some (60, Bool.false))), (.mk (Option.some
  63) (.bin .neq (.tmp 61) (.tmp 62)) (Option.some (60, Bool.false))), (.mk (Option.some 64) (.pick (.tmp 60) (.const (.bool Bool.true)) (.tmp 63)) Option.none), (.mk (Option.some
  65) (.mv (.tmp 64)) Option.none), (.mk (Option.some 66) (.mv (.tmp 13)) (Option.some (65, Bool.false))), (.mk (Option.some 67) (.mv (.tmp 11)) (Option.some (65, Bool.false))),
  (.mk (Option.some 68) (.eqb Bool.true (.tmp 66) (.tmp 67)) (Option.some (65, Bool.false))), (.mk (Option.some 69) (.pick (.tmp 65) (.const (.bool Bool.true)) (.tmp 68))
  Option.none)]) (.cond (.tmp 69) (.draws [((.mk (Option.some 70) (.mv (.tmp 8)) Option.none), (0, 11)), ((.mk (Option.some 71) (.nilCheck (.tmp 70)) Option.none), (0, 11)), ((.mk
  (Option.some 72) (.fieldAddr 2 (.tmp 71)) Option.none), (0, 11)), ((.mk (Option.some 73) (.load 1 Bool.false (.tmp 72)) Option.none), (0, 11)), ((.mk (Option.some 74) (.fieldAddr
  1 (.tmp 5)) Option.none), (0, 11)), ((.mk (Option.some 75) (.load 1 Bool.false (.tmp 74)) Option.none), (0, 11)), ((.mk (Option.some 76) (.fieldAddr 1 (.tmp 5)) Option.none), (0,
  11)), ((.mk (Option.some 77) (.load 1 Bool.false (.tmp 76)) Option.none), (0, 11)), ((.mk (Option.some 78) (.mv (.tmp 12)) Option.none), (0, 11)), ((.mk (Option.some 79) (.mv
  (.tmp 13)) Option.none), (0, 11)), ((.mk (Option.some 80) (.build [(.str []), (.int .i64 0), (.bool Bool.false)] [(0, (1, (.tmp 77))), (1, (1, (.tmp 78))), (2, (1, (.tmp 79)))])
  Option.none), (0, 11)), ((.mk Option.none (.mapPut .str (.tmp 73) (.tmp 75) (.tmp 80)) Option.none), (0, 12))]) .skip)) (.seq (.region [(.mk (Option.some 81) (.mv (.tmp 14))
  Option.none), (.mk (Option.some 6) (.mv (.tmp 81)) Option.none), (.mk (Option.some 7) (.mv (.const (.int .i64 0))) Option.none)]) .ret)))))))))) 82 [(.tmp 6), (.tmp 7)])
def a31 : AFn :=
  (.mk (.seq (.region [(.mk (Option.some 4) (.mv (.const (.int .i64 0))) Option.none)]) (.seq (.region [(.mk (Option.some 8) (.mv (.tmp 0)) Option.none), (.mk (Option.some 9) (.mv
  (.tmp 1)) Option.none), (.mk (Option.some 10) (.call 88 [(.tmp 8), (.tmp 9)]) Option.none), (.mk (Option.some 7) (.mv (.tmp 10)) Option.none), (.mk (Option.some 11) (.extract
  (.tmp 7) 0) Option.none), (.mk (Option.some 12) (.extract (.tmp 7) 1) Option.none), (.mk (Option.some 5) (.mv (.tmp 11)) Option.none), (.mk (Option.some 6) (.mv (.tmp 12))
  Option.none)]) (.seq (.seq (.region [(.mk (Option.some 13) (.mv (.tmp 6)) Option.none), (.mk (Option.some 14) (.eq (.iface Bool.true) Bool.true (.tmp 13) (.const .nilIface))
  Option.none)]) (.cond (.tmp 14) (.seq (.region [(.mk (Option.some 15) (.mv (.tmp 6)) Option.none), (.mk (Option.some 16) (.call 67 [(.tmp 15)]) Option.none), (.mk (Option.some 4)
  (.mv (.tmp 16)) Option.none)]) .ret) .skip)) (.seq (.region [(.mk (Option.some 17) (.mv (.tmp 0)) Option.none), (.mk (Option.some 18) (.mv (.tmp 1)) Option.none), (.mk
  (Option.some 19) (.mv (.tmp 5)) Option.none), (.mk (Option.some 20) (.call 93 [(.tmp 17), (.tmp 18), (.tmp 19)]) Option.none), (.mk (Option.some 6) (.mv (.tmp 20)) Option.none)])
  (.seq (.block 0 (.seq (.block 3 (.seq (.block 2 (.seq (.block 1 (.seq (.seq (.seq (.region [(.mk (Option.some 22) (.mv (.tmp 6)) Option.none), (.mk (Option.some 23) (.call 94
  [(.tmp 22), (.const (.int .i64 8))]) Option.none), (.mk (Option.some 21) (.mv (.tmp 23)) Option.none)]) (.cond (.tmp 21) (.exit 1) .skip)) (.seq (.region [(.mk (Option.some 25)
  (.mv (.tmp 6)) Option.none), (.mk (Option.some 26) (.eq (.iface Bool.true) Bool.false (.tmp 25) (.const .nilIface)) Option.none), (.mk (Option.some 24) (.mv (.tmp 26))
  Option.none)]) (.cond (.tmp 24) (.exit 2) .skip))) (.exit 3))) (.exit 0))) (.region [(.mk (Option.some 27) (.mv (.tmp 0)) Option.none), (.mk (Option.some 28) (.mv (.tmp 0))
  Option.none), (.mk (Option.some 29) (.nilCheck (.tmp 28)) Option.none), (.mk (Option.some 30) (.fieldAddr 3 (.tmp 29)) Option.none), (.mk (Option.some 31) (.load 1 Bool.false
  (.tmp 30)) Option.none), (.mk (Option.some 32) (.mv (.tmp 1)) Option.none), (.mk (Option.some 33) (.buildSlice 1 1 [(.int .i64 0)] [(0, (1, (.tmp 32)))]) Option.none), (.mk
  (Option.some 34) (.append Bool.false 1 8 (.tmp 31) (.tmp 33)) Option.none), (.mk (Option.some 35) (.nilCheck (.tmp 27)) Option.none), (.mk (Option.some 36) (.fieldAddr 3 (.tmp
  35)) Option.none), (.mk Option.none (.store 1 (.tmp 36) (.tmp 34)) Option.none)]))) (.seq (.region [(.mk (Option.some 37) (.mv (.tmp 0)) Option.none), (.mk (Option.some 38) (.mv
  (.tmp 1)) Option.none), (.mk (Option.some 39) (.call 95 [(.tmp 37), (.tmp 38)]) Option.none)]) (.exit 0)))) (.seq (.region [(.mk (Option.some 40) (.mv (.tmp 6)) Option.none),
  (.mk (Option.some 41) (.call 67 [(.tmp 40)]) Option.none), (.mk (Option.some 4) (.mv (.tmp 41)) Option.none)]) .ret)))))) 42 [(.tmp 4)])
def a32 : AFn :=
  (.mk (.seq (.region [(.mk (Option.some 4) (.mv (.const (.int .i64 0))) Option.none)]) (.seq (.seq (.region [(.mk (Option.some 8) (.mv (.tmp 0)) Option.none), (.mk (Option.some 9)
  (.mv (.tmp 1)) Option.none), (.mk (Option.some 10) (.call 88 [(.tmp 8), (.tmp 9)]) Option.none), (.mk (Option.some 7) (.mv (.tmp 10)) Option.none), (.mk (Option.some 11)
  (.extract (.tmp 7) 0) Option.none), (.mk (Option.some 12) (.extract (.tmp 7) 1) Option.none), (.mk (Option.some 5) (.mv (.tmp 11)) Option.none), (.mk (Option.some 6) (.mv (.tmp
  12)) Option.none)]) (.seq (.region [(.mk (Option.some 13) (.mv (.tmp 6)) Option.none), (.mk (Option.some 14) (.eq (.iface Bool.true) Bool.true (.tmp 13) (.const .nilIface))
  Option.none)]) (.cond (.tmp 14) (.seq (.region [(.mk (Option.some 15) (.mv (.tmp 6)) Option.none), (.mk (Option.some 16) (.call 67 [(.tmp 15)]) Option.none), (.mk (Option.some 4)
  (.mv (.tmp 16)) Option.none)]) .ret) .skip))) (.seq (.region [(.mk (Option.some 17) (.mv (.tmp 0)) Option.none), (.mk (Option.some 18) (.mv (.tmp 1)) Option.none), (.mk
  (Option.some 19) (.call 95 [(.tmp 17), (.tmp 18)]) Option.none)]) (.seq (.region [(.mk (Option.some 4) (.mv (.const (.int .i64 0))) Option.none)]) .ret)))) 20 [(.tmp 4)])
def a33 : AFn :=
  (.mk (.seq (.region [(.mk (Option.some 2) (.mv (.const (.int .i64 0))) Option.none)]) (.seq (.seq (.region [(.mk (Option.some 3) (.mv (.tmp 0)) Option.none), (.mk (Option.some 4)
  (.eq .ptr Bool.false (.tmp 3) (.const (.pointer Option.none))) Option.none)]) (.cond (.tmp 4) (.seq (.region [(.mk (Option.some 2) (.mv (.const (.int .i64 1))) Option.none)])
  .ret) .skip)) (.seq (.region [(.mk (Option.some 5) (.mv (.tmp 0)) Option.none), (.mk (Option.some 6) (.nilCheck (.tmp 5)) Option.none), (.mk (Option.some 7) (.fieldAddr 0 (.tmp
  6)) Option.none), (.mk (Option.some 8) (.load 1 Bool.false (.tmp 7)) Option.none), (.mk (Option.some 9) (.call 23 [(.tmp 8)]) Option.none), (.mk (Option.some 2) (.mv (.tmp 9))
  Option.none)]) .ret))) 10 [(.tmp 2)])
def a34 : AFn :=
  (.mk (.seq (.region [(.mk (Option.some 2) (.mv (.const (.slice Option.none 0 0))) Option.none)]) (.seq (.seq (.region [(.mk (Option.some 3) (.mv (.tmp 0)) Option.none), (.mk
  (Option.some 4) (.eq .ptr Bool.false (.tmp 3) (.const (.pointer Option.none))) Option.none)]) (.cond (.tmp 4) (.seq (.region [(.mk (Option.some 2) (.mv (.const (.slice
  Option.none 0 0))) Option.none)]) .ret) .skip)) (.seq (.region [(.mk (Option.some 5) (.mv (.tmp 0)) Option.none), (.mk (Option.some 6) (.nilCheck (.tmp 5)) Option.none), (.mk
  (Option.some 7) (.fieldAddr 0 (.tmp 6)) Option.none), (.mk (Option.some 8) (.load 1 Bool.false (.tmp 7)) Option.none), (.mk (Option.some 9) (.call 27 [(.tmp 8)]) Option.none),
  (.mk (Option.some 2) (.mv (.tmp 9)) Option.none)]) .ret))) 10 [(.tmp 2)])
def a35 : AFn :=
  (.mk (.seq (.region [(.mk (Option.some 2) (.mv (.const (.slice Option.none 0 0))) Option.none)]) (.seq (.seq (.region [(.mk (Option.some 3) (.mv (.tmp 0)) Option.none), (.mk
  (Option.some 4) (.eq .ptr Bool.false (.tmp 3) (.const (.pointer Option.none))) Option.none)]) (.cond (.tmp 4) (.seq (.region [(.mk (Option.some 2) (.mv (.const (.slice
  Option.none 0 0))) Option.none)]) .ret) .skip)) (.seq (.region [(.mk (Option.some 5) (.mv (.tmp 0)) Option.none), (.mk (Option.some 6) (.nilCheck (.tmp 5)) Option.none), (.mk
  (Option.some 7) (.fieldAddr 2 (.tmp 6)) Option.none), (.mk (Option.some 8) (.load 1 Bool.false (.tmp 7)) Option.none), (.mk (Option.some 9) (.call 97 [(.tmp 8)]) Option.none),
  (.mk (Option.some 10) (.call 96 [(.tmp 9)]) Option.none), (.mk (Option.some 2) (.mv (.tmp 10)) Option.none)]) .ret))) 11 [(.tmp 2)])
def a36 : AFn :=
  (.mk (.seq (.region [(.mk (Option.some 2) (.mv (.const (.slice Option.none 0 0))) Option.none)]) (.seq (.seq (.region [(.mk (Option.some 3) (.mv (.tmp 0)) Option.none), (.mk
  (Option.some 4) (.eq .ptr Bool.false (.tmp 3) (.const (.pointer Option.none))) Option.none)]) (.cond (.tmp 4) (.seq (.region [(.mk (Option.some 2) (.mv (.const (.slice
  Option.none 0 0))) Option.none)]) .ret) .skip)) (.seq (.region [(.mk (Option.some 5) (.mv (.tmp 0)) Option.none), (.mk (Option.some 6) (.nilCheck (.tmp 5)) Option.none), (.mk
  (Option.some 7) (.fieldAddr 3 (.tmp 6)) Option.none), (.mk (Option.some 8) (.load 1 Bool.false (.tmp 7)) Option.none), (.mk (Option.some 9) (.call 98 [(.tmp 8)]) Option.none),
  (.mk (Option.some 2) (.mv (.tmp 9)) Option.none)]) .ret))) 10 [(.tmp 2)])
def a37 : AFn :=
  (.mk (.seq (.region [(.mk (Option.some 2) (.mv (.const (.int .i64 0))) Option.none)]) (.seq (.seq (.region [(.mk (Option.some 3) (.mv (.tmp 0)) Option.none), (.mk (Option.some 4)
  (.eq .ptr Bool.false (.tmp 3) (.const (.pointer Option.none))) Option.none)]) (.cond (.tmp 4) (.seq (.region [(.mk (Option.some 2) (.mv (.const (.int .i64 0))) Option.none)])
  .ret) .skip)) (.seq (.region [(.mk (Option.some 5) (.mv (.tmp 0)) Option.none), (.mk (Option.some 6) (.nilCheck (.tmp 5)) Option.none), (.mk (Option.some 7) (.fieldAddr 4 (.tmp
  6)) Option.none), (.mk (Option.some 8) (.load 1 Bool.false (.tmp 7)) Option.none), (.mk (Option.some 2) (.mv (.tmp 8)) Option.none)]) .ret))) 9 [(.tmp 2)])
def a38 : AFn :=
  (.mk (.seq (.region [(.mk (Option.some 2) (.mv (.const (.int .i64 0))) Option.none)]) (.seq (.seq (.region [(.mk (Option.some 3) (.mv (.tmp 0)) Option.none), (.mk (Option.some 4)
  (.eq .ptr Bool.false (.tmp 3) (.const (.pointer Option.none))) Option.none)]) (.cond (.tmp 4) (.seq (.region [(.mk (Option.some 2) (.mv (.const (.int .i64 0))) Option.none)])
  .ret) .skip)) (.seq (.region [(.mk (Option.some 5) (.mv (.tmp 0)) Option.none), (.mk (Option.some 6) (.nilCheck (.tmp 5)) Option.none), (.mk (Option.some 7) (.fieldAddr 0 (.tmp
  6)) Option.none), (.mk (Option.some 8) (.load 1 Bool.false (.tmp 7)) Option.none), (.mk (Option.some 9) (.call 72 [(.tmp 8)]) Option.none), (.mk (Option.some 2) (.mv (.tmp 9))
  Option.none)]) .ret))) 10 [(.tmp 2)])
def a39 : AFn :=
  (.mk (.seq (.region [(.mk (Option.some 0) (.mv (.const (.bool Bool.false))) Option.none)]) (.seq (.region [(.mk (Option.some 19) (.call 63 [(.const (.int .i64 1000))])
  Option.none), (.mk (Option.some 18) (.mv (.tmp 19)) Option.none), (.mk (Option.some 20) (.extract (.tmp 18) 0) Option.none), (.mk (Option.some 21) (.extract (.tmp 18) 1)
  Option.none), (.mk (Option.some 1) (.mv (.tmp 20)) Option.none), (.mk (Option.some 2) (.mv (.tmp 21)) Option.none)]) (.seq (.region [(.mk (Option.some 23) (.mv (.tmp 1))
  Option.none), (.mk (Option.some 24) (.call 28 [(.tmp 23), (.const (.int .i64 100))]) Option.none), (.mk (Option.some 22) (.mv (.tmp 24)) Option.none), (.mk (Option.some 25)
  (.extract (.tmp 22) 0) Option.none), (.mk (Option.some 26) (.extract (.tmp 22) 1) Option.none), (.mk (Option.some 3) (.mv (.tmp 25)) Option.none), (.mk (Option.some 4) (.mv (.tmp
  26)) Option.none)]) (.seq (.seq (.region [(.mk (Option.some 27) (.mv (.tmp 4)) Option.none), (.mk (Option.some 28) (.bin .neq (.tmp 27) (.const (.int .i64 0))) Option.none), (.mk
  (Option.some 29) (.mv (.tmp 28)) Option.none), (.mk (Option.some 30) (.mv (.tmp 3)) (Option.some (29, Bool.false))), (.mk (Option.some 31) (.eq .ptr Bool.false (.tmp 30) (.const
  (.pointer Option.none))) (Option.some (29, Bool.false))), (.mk (Option.some 32) (.pick (.tmp 29) (.const (.bool Bool.true)) (.tmp 31)) Option.none)]) (.cond (.tmp 32) (.seq
  (.region [(.mk (Option.some 0) (.mv (.const (.bool Bool.false))) Option.none)]) .ret) .skip)) (.seq (.region [(.mk (Option.some 34) (.mv (.tmp 3)) Option.none), (.mk (Option.some
  35) (.call 29 [(.tmp 34)]) Option.none), (.mk (Option.some 33) (.mv (.tmp 35)) Option.none), (.mk (Option.some 36) (.extract (.tmp 33) 0) Option.none), (.mk (Option.some 37)
  (.extract (.tmp 33) 1) Option.none), (.mk (Option.some 5) (.mv (.tmp 36)) Option.none), (.mk (Option.some 6) (.mv (.tmp 37)) Option.none)]) (.seq (.region [(.mk (Option.some 39)
  (.mv (.tmp 3)) Option.none), (.mk (Option.some 40) (.call 29 [(.tmp 39)]) Option.none), (.mk (Option.some 38) (.mv (.tmp 40)) Option.none), (.mk (Option.some 41) (.extract (.tmp
  38) 0) Option.none), (.mk (Option.some 42) (.extract (.tmp 38) 1) Option.none), (.mk (Option.some 7) (.mv (.tmp 41)) Option.none), (.mk (Option.some 8) (.mv (.tmp 42))
  Option.none)]) (.seq (.region [(.mk (Option.some 44) (.mv (.tmp 3)) Option.none), (.mk (Option.some 45) (.mv (.tmp 5)) Option.none), (.mk (Option.some 46) (.call 99 [(.const
  (.int .i64 1)), (.const (.string (ByteArray.mk #[120]))), (.const (.int .i64 0))]) Option.none), (.mk (Option.some 47) (.call 30 [(.tmp 44), (.tmp 45), (.tmp 46)]) Option.none),
  (.mk (Option.some 43) (.mv (.tmp 47)) Option.none), (.mk (Option.some 48) (.extract (.tmp 43) 0) Option.none), (.mk (Option.some 49) (.extract (.tmp 43) 1) Option.none), (.mk
  (Option.some 9) (.mv (.tmp 48)) Option.none), (.mk (Option.some 10) (.mv (.tmp 49)) Option.none)]) (.seq (.region [(.mk (Option.some 51) (.mv (.tmp 3)) Option.none), (.mk
  (Option.some 52) (.mv (.tmp 7)) Option.none), (.mk (Option.some 53) (.call 99 [(.const (.int .i64 2)), (.const (.string (ByteArray.mk #[120]))), (.const (.int .i64 5))])
  Option.none), (.mk (Option.some 54) (.call 30 [(.tmp 51), (.tmp 52), (.tmp 53)]) Option.none), (.mk (Option.some 50) (.mv (.tmp 54)) Option.none), (.mk (Option.some 55) (.extract
  (.tmp 50) 0) Option.none), (.mk (Option.some 56) (.extract (.tmp 50) 1) Option.none), (.mk (Option.some 11) (.mv (.tmp 55)) Option.none), (.mk (Option.some 12) (.mv (.tmp 56))
  Option.none)]) (.seq (.region [(.mk (Option.some 57) (.mv (.tmp 3)) Option.none), (.mk (Option.some 58) (.mv (.tmp 7)) Option.none), (.mk (Option.some 59) (.call 31 [(.tmp 57),
  (.tmp 58)]) Option.none), (.mk (Option.some 13) (.mv (.tmp 59)) Option.none)]) (.seq (.region [(.mk (Option.some 61) (.mv (.tmp 3)) Option.none), (.mk (Option.some 62) (.mv (.tmp
  5)) Option.none), (.mk (Option.some 63) (.call 99 [(.const (.int .i64 2)), (.const (.string (ByteArray.mk #[121]))), (.const (.int .i64 1))]) Option.none), (.mk (Option.some 64)
  (.call 30 [(.tmp 61), (.tmp 62), (.tmp 63)]) Option.none), (.mk (Option.some 60) (.mv (.tmp 64)) Option.none), (.mk (Option.some 65) (.extract (.tmp 60) 0) Option.none), (.mk
  (Option.some 66) (.extract (.tmp 60) 1) Option.none), (.mk (Option.some 14) (.mv (.tmp 65)) Option.none), (.mk (Option.some 15) (.mv (.tmp 66)) Option.none)]) (.seq (.region
  [(.mk (Option.some 67) (.mv (.tmp 3)) Option.none), (.mk (Option.some 68) (.mv (.tmp 5)) Option.none), (.mk (Option.some 69) (.call 31 [(.tmp 67), (.tmp 68)]) Option.none), (.mk
  (Option.some 16) (.mv (.tmp 69)) Option.none)]) (.seq (.region [(.mk (Option.some 70) (.mv (.tmp 3)) Option.none), (.mk (Option.some 71) (.call 34 [(.tmp 70)]) Option.none), (.mk
  (Option.some 17) (.mv (.tmp 71)) Option.none)]) (.seq (.region [(.mk (Option.some 72) (.mv (.tmp 5)) Option.none), (.mk (Option.some 73) (.bin .eql (.tmp 72) (.const (.int .i64
  1))) Option.none), (.mk (Option.some 74) (.mv (.tmp 73)) Option.none), (.mk (Option.some 75) (.mv (.tmp 7)) (Option.some (74, Bool.true))), (.mk (Option.some 76) (.bin .eql (.tmp
  75) (.const (.int .i64 2))) (Option.some (74, Bool.true))), (.mk (Option.some 77) (.pick (.tmp 74) (.tmp 76) (.const (.bool Bool.false))) Option.none), (.mk (Option.some 78) (.mv
  (.tmp 77)) Option.none), (.mk (Option.some 79) (.mv (.tmp 9)) (Option.some (78, Bool.true))), (.mk (Option.some 80) (.bin .eql (.tmp 79) (.const (.int .i64 0))) (Option.some (78,
  Bool.true))), (.mk (Option.some 81) (.pick (.tmp 78) (.tmp 80) (.const (.bool Bool.false))) Option.none), (.mk (Option.some 82) (.mv (.tmp 81)) Option.none), (.mk (Option.some
  83) (.mv (.tmp 10)) (Option.some (82, Bool.true))), (.mk (Option.some 84) (.bin .eql (.tmp 83) (.const (.int .i64 0))) (Option.some (82, Bool.true))), (.mk (Option.some 85)
  (.pick (.tmp 82) (.tmp 84) (.const (.bool Bool.false))) Option.none), (.mk (Option.some 86) (.mv (.tmp 85)) Option.none), (.mk (Option.some 87) (.mv (.tmp 11)) (Option.some (86,
  Bool.true))), (.mk (Option.some 88) (.bin .eql (.tmp 87) (.const (.int .i64 5))) (Option.some (86, Bool.true))), (.mk (Option.some 89) (.pick (.tmp 86) (.tmp 88) (.const (.bool
  Bool.false))) Option.none), (.mk (Option.some 90) (.mv (.tmp 89)) Option.none), (.mk (Option.some 91) (.mv (.tmp 12)) (Option.some (90, Bool.true))), (.mk (Option.some 92) (.bin
  .eql (.tmp 91) (.const (.int .i64 0))) (Option.some (90, Bool.true))), (.mk (Option.some 93) (.pick (.tmp 90) (.tmp 92) (.const (.bool Bool.false))) Option.none), (.mk
  (Option.some 94) (.mv (.tmp 93)) Option.none), (.mk (Option.some 95) (.mv (.tmp 13)) (Option.some (94, Bool.true))), (.mk (Option.some 96) (.bin .eql (.tmp 95) (.const (.int .i64
  0))) (Option.some (94, Bool.true))), (.mk (Option.some 97) (.pick (.tmp 94) (.tmp 96) (.const (.bool Bool.false))) Option.none), (.mk (Option.some 98) (.mv (.tmp 97))
  Option.none), (.mk (Option.some 99) (.mv (.tmp 14)) (Option.some (98, Bool.true))), (.mk (Option.some 100) (.bin .eql (.tmp 99) (.const (.int .i64 1))) (Option.some (98,
  Bool.true))), (.mk (Option.some 101) (.pick (.tmp 98) (.tmp 100) (.const (.bool Bool.false))) Option.none), (.mk (Option.some 102) (.mv (.tmp 101)) Option.none), (.mk
  (Option.some 103) (.mv (.tmp 15)) (Option.some (102, Bool.true))), (.mk (Option.some 104) (.bin .eql (.tmp 103) (.const (.int .i64 0))) (Option.some (102, Bool.true))), (.mk
  (Option.some 105) (.pick (.tmp 102) (.tmp 104) (.const (.bool Bool.false))) Option.none), (.mk (Option.some 106) (.mv (.tmp 105)) Option.none), (.mk (Option.some 107) (.mv (.tmp
  16)) (Option.some (106, Bool.true))), (.mk (Option.some 108) (.bin .eql (.tmp 107) (.const (.int .i64 23))) (Option.some (106, Bool.true))), (.mk (Option.some 109) (.pick (.tmp
  106) (.tmp 108) (.const (.bool Bool.false))) Option.none), (.mk (Option.some 110) (.mv (.tmp 109)) Option.none), (.mk (Option.some 111) (.mv (.tmp 17)) (Option.some (110,
  Bool.true))), (.mk (Option.some 112) (.len (.tmp 111)) (Option.some (110, Bool.true))), (.mk (Option.some 113) (.bin .eql (.tmp 112) (.const (.int .i64 1))) (Option.some (110,
  Bool.true))), (.mk (Option.some 114) (.pick (.tmp 110) (.tmp 113) (.const (.bool Bool.false))) Option.none), (.mk (Option.some 115) (.mv (.tmp 114)) Option.none), (.mk
  (Option.some 116) (.mv (.tmp 17)) (Option.some (115, Bool.true))), (.mk (Option.some 117) (.atSlice 2 (.tmp 116) (.const (.int .i64 0))) (Option.some (115, Bool.true))), (.mk
  (Option.some 118) (.fieldAddr 1 (.tmp 117)) (Option.some (115, Bool.true))), (.mk (Option.some 119) (.load 1 Bool.false (.tmp 118)) (Option.some (115, Bool.true))), (.mk
  (Option.some 120) (.bin .eql (.tmp 119) (.const (.int .i64 5))) (Option.some (115, Bool.true))), (.mk (Option.some 121) (.pick (.tmp 115) (.tmp 120) (.const (.bool Bool.false)))
  Option.none), (.mk (Option.some 0) (.mv (.tmp 121)) Option.none)]) .ret))))))))))))) 122 [(.tmp 0)])
def a63 : AFn :=
  (.mk (.seq (.region [(.mk (Option.some 2) (.mv (.const (.pointer Option.none))) Option.none), (.mk (Option.some 3) (.mv (.const (.int .i64 0))) Option.none)]) (.seq (.seq (.region
  [(.mk (Option.some 4) (.mv (.tmp 0)) Option.none), (.mk (Option.some 5) (.bin .lss (.tmp 4) (.const (.int .i64 0))) Option.none), (.mk (Option.some 6) (.mv (.tmp 5))
  Option.none), (.mk (Option.some 7) (.mv (.tmp 0)) (Option.some (6, Bool.false))), (.mk (Option.some 8) (.bin .gtr (.tmp 7) (.const (.int .i64 1048576))) (Option.some (6,
  Bool.false))), (.mk (Option.some 9) (.pick (.tmp 6) (.const (.bool Bool.true)) (.tmp 8)) Option.none)]) (.cond (.tmp 9) (.seq (.region [(.mk (Option.some 2) (.mv (.const
  (.pointer Option.none))) Option.none), (.mk (Option.some 3) (.mv (.const (.int .i64 2))) Option.none)]) .ret) .skip)) (.seq (.region [(.mk (Option.some 10) (.mv (.tmp 0))
  Option.none), (.mk (Option.some 11) .mkMap Option.none), (.mk (Option.some 12) (.build [(.int .i64 0), (.map Option.none), (.int .i64 0), (.bool Bool.false)] [(0, (1, (.tmp
  10))), (1, (1, (.tmp 11))), (2, (1, (.const (.int .i64 (-1))))), (3, (1, (.const (.bool Bool.false))))]) Option.none), (.mk (Option.some 13) (.box (.tmp 12)) Option.none), (.mk
  (Option.some 2) (.mv (.tmp 13)) Option.none), (.mk (Option.some 3) (.mv (.const (.int .i64 0))) Option.none)]) .ret))) 14 [(.tmp 2), (.tmp 3)])
def a66 : AFn :=
  (.mk (.seq (.region [(.mk (Option.some 6) (.mv (.const .nilIface)) Option.none)]) (.seq (.seq (.region [(.mk (Option.some 7) (.mv (.tmp 1)) Option.none), (.mk (Option.some 8) (.bin
  .lss (.tmp 7) (.const (.int .i64 0))) Option.none), (.mk (Option.some 9) (.mv (.tmp 8)) Option.none), (.mk (Option.some 10) (.mv (.tmp 1)) (Option.some (9, Bool.false))), (.mk
  (Option.some 11) (.bin .gtr (.tmp 10) (.const (.int .i64 1073741824))) (Option.some (9, Bool.false))), (.mk (Option.some 12) (.pick (.tmp 9) (.const (.bool Bool.true)) (.tmp 11))
  Option.none)]) (.cond (.tmp 12) (.seq (.region [(.mk (Option.some 13) (.mv (.tmp 1)) Option.none), (.mk (Option.some 14) (.call 90 [(.const (.int .i64 2))]) Option.none), (.mk
  (Option.some 15) (.call 150 [(.const (.int .i64 1073741824)), (.tmp 13), (.tmp 14)]) Option.none), (.mk (Option.some 6) (.mv (.tmp 15)) Option.none)]) .ret) .skip)) (.seq
  (.region [(.mk (Option.some 16) (.mv (.tmp 0)) Option.none), (.mk (Option.some 17) (.call 27 [(.tmp 16)]) Option.none), (.mk (Option.some 18) (.call 108 [(.tmp 17)])
  Option.none), (.mk (Option.some 19) (.mv (.tmp 2)) Option.none), (.mk (Option.some 20) (.call 152 [(.tmp 18), (.tmp 19)]) Option.none), (.mk (Option.some 21) (.call 90 [(.tmp
  20)]) Option.none), (.mk (Option.some 22) (.call 151 [(.const (.string (ByteArray.mk #[99, 104, 97, 110, 103, 101, 115]))), (.tmp 21)]) Option.none), (.mk (Option.some 6) (.mv
  (.tmp 22)) Option.none)]) .ret))) 23 [(.tmp 6)])
def a67 : AFn :=
  (.mk (.seq (.region [(.mk (Option.some 2) (.mv (.const (.int .i64 0))) Option.none)]) (.seq (.region [(.mk (Option.some 3) (.alloc [(.ptr Option.none)]) Option.none)]) (.seq
  (.block 0 (.seq (.region [(.mk (Option.some 5) (.mv (.tmp 0)) Option.none), (.mk (Option.some 6) (.eq (.iface Bool.true) Bool.false (.tmp 5) (.const .nilIface)) Option.none),
  (.mk (Option.some 4) (.mv (.tmp 6)) Option.none)]) (.cond (.tmp 4) (.seq (.region [(.mk (Option.some 2) (.mv (.const (.int .i64 0))) Option.none)]) .ret) (.seq (.region [(.mk
  (Option.some 8) (.mv (.tmp 0)) Option.none), (.mk (Option.some 9) (.mkIface 231 (.tmp 3)) Option.none), (.mk (Option.some 10) (.call 153 [(.tmp 8), (.tmp 9)]) Option.none), (.mk
  (Option.some 7) (.mv (.tmp 10)) Option.none)]) (.cond (.tmp 7) (.seq (.region [(.mk (Option.some 11) (.load 1 Bool.false (.tmp 3)) Option.none), (.mk (Option.some 12) (.nilCheck
  (.tmp 11)) Option.none), (.mk (Option.some 13) (.fieldAddr 0 (.tmp 12)) Option.none), (.mk (Option.some 14) (.load 1 Bool.false (.tmp 13)) Option.none), (.mk (Option.some 2) (.mv
  (.tmp 14)) Option.none)]) .ret) .skip))))) (.seq (.region [(.mk (Option.some 2) (.mv (.const (.int .i64 2))) Option.none)]) .ret)))) 15 [(.tmp 2)])
def a68 : AFn :=
  (.mk (.seq (.region [(.mk (Option.some 4) (.mv (.const (.int .i64 0))) Option.none)]) (.seq (.seq (.region [(.mk (Option.some 6) (.mv (.tmp 0)) Option.none), (.mk (Option.some 7)
  (.eq .ptr Bool.false (.tmp 6) (.const (.pointer Option.none))) Option.none)]) (.cond (.tmp 7) (.seq (.region [(.mk (Option.some 4) (.mv (.const (.int .i64 1))) Option.none)])
  .ret) .skip)) (.seq (.seq (.region [(.mk (Option.some 8) (.mv (.tmp 0)) Option.none), (.mk (Option.some 9) (.mv (.tmp 1)) Option.none), (.mk (Option.some 10) (.call 154 [(.tmp
  8), (.tmp 9)]) Option.none), (.mk (Option.some 5) (.mv (.tmp 10)) Option.none)]) (.seq (.region [(.mk (Option.some 11) (.mv (.tmp 5)) Option.none), (.mk (Option.some 12) (.eq
  (.iface Bool.true) Bool.true (.tmp 11) (.const .nilIface)) Option.none)]) (.cond (.tmp 12) (.seq (.region [(.mk (Option.some 13) (.mv (.tmp 5)) Option.none), (.mk (Option.some
  14) (.call 67 [(.tmp 13)]) Option.none), (.mk (Option.some 4) (.mv (.tmp 14)) Option.none)]) .ret) .skip))) (.seq (.region [(.mk (Option.some 15) (.mv (.tmp 0)) Option.none),
  (.mk (Option.some 16) (.call 155 [(.tmp 15)]) Option.none), (.mk (Option.some 4) (.mv (.tmp 16)) Option.none)]) .ret)))) 17 [(.tmp 4)])
def a69 : AFn :=
  (.mk (.seq (.region [(.mk (Option.some 4) (.mv (.const (.slice Option.none 0 0))) Option.none)]) (.seq (.region [(.mk (Option.some 5) (.mv (.tmp 0)) Option.none), (.mk (Option.some
  6) (.conv .u64 (.tmp 5)) Option.none), (.mk (Option.some 7) (.call 120 [(.tmp 6)]) Option.none), (.mk (Option.some 8) (.mv (.tmp 1)) Option.none), (.mk (Option.some 9) (.call 121
  [(.tmp 8)]) Option.none), (.mk (Option.some 10) (.buildSlice 2 1 [(.slice Option.none 0 0 0 0), (.slice Option.none 0 0 0 0)] [(0, (1, (.tmp 7))), (1, (1, (.tmp 9)))])
  Option.none), (.mk (Option.some 11) (.call 119 [(.tmp 10)]) Option.none), (.mk (Option.some 4) (.mv (.tmp 11)) Option.none)]) .ret)) 12 [(.tmp 4)])
def a70 : AFn :=
  (.mk (.seq (.seq (.region [(.mk (Option.some 10) (.mv (.tmp 3)) Option.none), (.mk (Option.some 11) (.len (.tmp 10)) Option.none), (.mk (Option.some 12) (.mv (.const (.int .i64
  0))) Option.none)]) (.block 0 (.loop (.seq (.region [(.mk (Option.some 13) (.bin .lss (.tmp 12) (.tmp 11)) Option.none)]) (.seq (.cond (.tmp 13) .skip (.exit 0)) (.seq (.block 1
  (.seq (.region [(.mk (Option.some 14) (.atSlice 3 (.tmp 10) (.tmp 12)) Option.none), (.mk (Option.some 15) (.load 3 Bool.true (.tmp 14)) Option.none), (.mk (Option.some 9)
  (.alloc [(.str []), (.int .i64 0), (.bool Bool.false)]) Option.none), (.mk Option.none (.store 3 (.tmp 9) (.tmp 15)) Option.none)]) (.draws [((.mk (Option.some 16) (.mv (.tmp 0))
  Option.none), (0, 9)), ((.mk (Option.some 17) (.nilCheck (.tmp 16)) Option.none), (0, 9)), ((.mk (Option.some 18) (.fieldAddr 1 (.tmp 17)) Option.none), (0, 9)), ((.mk
  (Option.some 19) (.load 1 Bool.false (.tmp 18)) Option.none), (0, 9)), ((.mk (Option.some 20) (.fieldAddr 0 (.tmp 9)) Option.none), (0, 9)), ((.mk (Option.some 21) (.load 1
  Bool.false (.tmp 20)) Option.none), (0, 9)), ((.mk (Option.some 22) (.load 3 Bool.true (.tmp 9)) Option.none), (0, 9)), ((.mk (Option.some 23) (.mv (.tmp 1)) Option.none), (0,
  9)), ((.mk (Option.some 24) (.build [(.str []), (.int .i64 0), (.bool Bool.false), (.int .i64 0)] [(0, (3, (.tmp 22))), (3, (1, (.tmp 23)))]) Option.none), (0, 9)), ((.mk
  Option.none (.mapPut .str (.tmp 19) (.tmp 21) (.tmp 24)) Option.none), (0, 10))]))) (.region [(.mk (Option.some 25) (.bin .add (.tmp 12) (.const (.int .i64 1))) Option.none),
  (.mk (Option.some 12) (.mv (.tmp 25)) Option.none)]))))))) (.seq (.region [(.mk (Option.some 26) (.mv (.tmp 0)) Option.none), (.mk (Option.some 27) (.nilCheck (.tmp 26))
  Option.none), (.mk (Option.some 28) (.fieldAddr 2 (.tmp 27)) Option.none), (.mk (Option.some 29) (.load 1 Bool.false (.tmp 28)) Option.none), (.mk (Option.some 30) (.mv (.tmp 3))
  Option.none), (.mk (Option.some 31) (.len (.tmp 30)) Option.none), (.mk (Option.some 32) (.bin .add (.tmp 29) (.tmp 31)) Option.none), (.mk (Option.some 33) (.nilCheck (.tmp 26))
  Option.none), (.mk (Option.some 34) (.fieldAddr 2 (.tmp 33)) Option.none), (.mk Option.none (.store 1 (.tmp 34) (.tmp 32)) Option.none)]) (.region [(.mk (Option.some 35) (.mv
  (.tmp 0)) Option.none), (.mk (Option.some 36) (.mv (.tmp 0)) Option.none), (.mk (Option.some 37) (.nilCheck (.tmp 36)) Option.none), (.mk (Option.some 38) (.fieldAddr 3 (.tmp
  37)) Option.none), (.mk (Option.some 39) (.load 1 Bool.false (.tmp 38)) Option.none), (.mk (Option.some 40) (.mv (.tmp 2)) Option.none), (.mk (Option.some 41) (.minmax Bool.true
  [(.tmp 39), (.tmp 40)]) Option.none), (.mk (Option.some 42) (.nilCheck (.tmp 35)) Option.none), (.mk (Option.some 43) (.fieldAddr 3 (.tmp 42)) Option.none), (.mk Option.none
  (.store 1 (.tmp 43) (.tmp 41)) Option.none)]))) 44 [])
def a73 : AFn :=
  (.mk (.seq (.region [(.mk (Option.some 2) (.mv (.const (.int .i64 0))) Option.none)]) (.seq (.seq (.region [(.mk (Option.some 3) (.mv (.tmp 0)) Option.none), (.mk (Option.some 4)
  (.eq .ptr Bool.false (.tmp 3) (.const (.pointer Option.none))) Option.none)]) (.cond (.tmp 4) (.seq (.region [(.mk (Option.some 2) (.mv (.const (.int .i64 0))) Option.none)])
  .ret) .skip)) (.seq (.region [(.mk (Option.some 5) (.mv (.tmp 0)) Option.none), (.mk (Option.some 6) (.nilCheck (.tmp 5)) Option.none), (.mk (Option.some 7) (.fieldAddr 3 (.tmp
  6)) Option.none), (.mk (Option.some 8) (.load 1 Bool.false (.tmp 7)) Option.none), (.mk (Option.some 2) (.mv (.tmp 8)) Option.none)]) .ret))) 9 [(.tmp 2)])
def a76 : AFn :=
  (.mk (.seq (.region [(.mk (Option.some 2) (.mv (.const (.slice Option.none 0 0))) Option.none)]) (.seq (.region [(.mk (Option.some 3) (.mv (.const (.slice Option.none 0 0)))
  Option.none)]) (.seq (.seq (.region [(.mk (Option.some 7) (.mv (.tmp 0)) Option.none), (.mk (Option.some 8) (.nilCheck (.tmp 7)) Option.none), (.mk (Option.some 9) (.fieldAddr 1
  (.tmp 8)) Option.none), (.mk (Option.some 10) (.load 1 Bool.false (.tmp 9)) Option.none), (.mk (Option.some 11) (.call 157 [(.tmp 10)]) Option.none), (.mk (Option.some 12) (.call
  156 [(.tmp 11)]) Option.none), (.mk (Option.some 13) (.len (.tmp 12)) Option.none), (.mk (Option.some 14) (.mv (.const (.int .i64 0))) Option.none)]) (.block 0 (.loop (.seq
  (.region [(.mk (Option.some 15) (.bin .lss (.tmp 14) (.tmp 13)) Option.none)]) (.seq (.cond (.tmp 15) .skip (.exit 0)) (.seq (.block 1 (.seq (.region [(.mk (Option.some 16)
  (.atSlice 1 (.tmp 12) (.tmp 14)) Option.none), (.mk (Option.some 17) (.load 1 Bool.false (.tmp 16)) Option.none), (.mk (Option.some 5) (.mv (.tmp 17)) Option.none)]) (.seq
  (.region [(.mk (Option.some 18) (.mv (.tmp 0)) Option.none), (.mk (Option.some 19) (.nilCheck (.tmp 18)) Option.none), (.mk (Option.some 20) (.fieldAddr 1 (.tmp 19))
  Option.none), (.mk (Option.some 21) (.load 1 Bool.false (.tmp 20)) Option.none), (.mk (Option.some 22) (.mv (.tmp 5)) Option.none), (.mk (Option.some 23) (.lookup .str (.agg
  [(.str []), (.int .i64 0), (.bool Bool.false), (.int .i64 0)]) Bool.false (.tmp 21) (.tmp 22)) Option.none), (.mk (Option.some 6) (.alloc [(.str []), (.int .i64 0), (.bool
  Bool.false), (.int .i64 0)]) Option.none), (.mk Option.none (.store 4 (.tmp 6) (.tmp 23)) Option.none)]) (.seq (.region [(.mk (Option.some 24) (.fieldAddr 0 (.tmp 6))
  Option.none), (.mk (Option.some 25) (.fieldAddr 2 (.tmp 24)) Option.none), (.mk (Option.some 26) (.load 1 Bool.false (.tmp 25)) Option.none)]) (.cond (.tmp 26) (.region [(.mk
  (Option.some 27) (.mv (.tmp 3)) Option.none), (.mk (Option.some 28) (.fieldAddr 0 (.tmp 6)) Option.none), (.mk (Option.some 29) (.load 3 Bool.true (.tmp 28)) Option.none), (.mk
  (Option.some 30) (.buildSlice 1 3 [(.str []), (.int .i64 0), (.bool Bool.false)] [(0, (3, (.tmp 29)))]) Option.none), (.mk (Option.some 31) (.append Bool.false 3 32 (.tmp 27)
  (.tmp 30)) Option.none), (.mk (Option.some 3) (.mv (.tmp 31)) Option.none)]) .skip))))) (.region [(.mk (Option.some 32) (.bin .add (.tmp 14) (.const (.int .i64 1))) Option.none),
  (.mk (Option.some 14) (.mv (.tmp 32)) Option.none)]))))))) (.seq (.region [(.mk (Option.some 33) (.mv (.tmp 3)) Option.none), (.mk (Option.some 2) (.mv (.tmp 33)) Option.none)])
  .ret)))) 34 [(.tmp 2)])
def a78 : AFn :=
  (.mk (.seq (.region [(.mk (Option.some 4) (.mv (.const (.pointer Option.none))) Option.none), (.mk (Option.some 5) (.mv (.const (.int .i64 0))) Option.none)]) (.seq (.block 0 (.seq
  (.region [(.mk (Option.some 9) (.mv (.tmp 0)) Option.none), (.mk (Option.some 10) (.eq .ptr Bool.false (.tmp 9) (.const (.pointer Option.none))) Option.none), (.mk (Option.some
  8) (.mv (.tmp 10)) Option.none)]) (.cond (.tmp 8) (.seq (.region [(.mk (Option.some 4) (.mv (.const (.pointer Option.none))) Option.none), (.mk (Option.some 5) (.mv (.const (.int
  .i64 1))) Option.none)]) .ret) (.seq (.region [(.mk (Option.some 12) (.mv (.tmp 1)) Option.none), (.mk (Option.some 13) (.bin .lss (.tmp 12) (.const (.int .i64 16)))
  Option.none), (.mk (Option.some 14) (.mv (.tmp 13)) Option.none), (.mk (Option.some 15) (.mv (.tmp 1)) (Option.some (14, Bool.false))), (.mk (Option.some 16) (.bin .gtr (.tmp 15)
  (.const (.int .i64 1048576))) (Option.some (14, Bool.false))), (.mk (Option.some 17) (.pick (.tmp 14) (.const (.bool Bool.true)) (.tmp 16)) Option.none), (.mk (Option.some 11)
  (.mv (.tmp 17)) Option.none)]) (.cond (.tmp 11) (.seq (.region [(.mk (Option.some 4) (.mv (.const (.pointer Option.none))) Option.none), (.mk (Option.some 5) (.mv (.const (.int
  .i64 2))) Option.none)]) .ret) .skip))))) (.seq (.region [(.mk (Option.some 18) (.mv (.tmp 0)) Option.none), (.mk (Option.some 19) (.mv (.tmp 1)) Option.none), (.mk (Option.some
  20) (.build [(.ptr Option.none), (.int .i64 0), (.int .i64 0), (.slice Option.none 0 0 0 0), (.slice Option.none 0 0 0 0)] [(0, (1, (.tmp 18))), (1, (1, (.tmp 19))), (2, (1,
  (.const (.int .i64 (-1)))))]) Option.none), (.mk (Option.some 21) (.box (.tmp 20)) Option.none), (.mk (Option.some 6) (.mv (.tmp 21)) Option.none)]) (.seq (.region [(.mk
  (Option.some 22) (.mv (.tmp 6)) Option.none), (.mk (Option.some 23) (.call 164 [(.tmp 22)]) Option.none), (.mk (Option.some 7) (.mv (.tmp 23)) Option.none)]) (.seq (.seq (.region
  [(.mk (Option.some 24) (.mv (.tmp 7)) Option.none), (.mk (Option.some 25) (.eq (.iface Bool.true) Bool.false (.tmp 24) (.const .nilIface)) Option.none)]) (.cond (.tmp 25)
  (.region [(.mk (Option.some 26) (.mv (.tmp 6)) Option.none), (.mk (Option.some 27) (.call 165 [(.tmp 26)]) Option.none), (.mk (Option.some 7) (.mv (.tmp 27)) Option.none)])
  .skip)) (.seq (.seq (.region [(.mk (Option.some 28) (.mv (.tmp 7)) Option.none), (.mk (Option.some 29) (.eq (.iface Bool.true) Bool.true (.tmp 28) (.const .nilIface))
  Option.none)]) (.cond (.tmp 29) (.seq (.region [(.mk (Option.some 30) (.mv (.tmp 7)) Option.none), (.mk (Option.some 31) (.call 67 [(.tmp 30)]) Option.none), (.mk (Option.some 4)
  (.mv (.const (.pointer Option.none))) Option.none), (.mk (Option.some 5) (.mv (.tmp 31)) Option.none)]) .ret) .skip)) (.seq (.region [(.mk (Option.some 32) (.mv (.tmp 6))
  Option.none), (.mk (Option.some 4) (.mv (.tmp 32)) Option.none), (.mk (Option.some 5) (.mv (.const (.int .i64 0))) Option.none)]) .ret))))))) 33 [(.tmp 4), (.tmp 5)])
def a79 : AFn :=
  (.mk (.seq (.region [(.mk (Option.some 2) (.mv (.const (.slice Option.none 0 0))) Option.none)]) (.seq (.seq (.region [(.mk (Option.some 3) (.mv (.tmp 0)) Option.none), (.mk
  (Option.some 4) (.eq .ptr Bool.false (.tmp 3) (.const (.pointer Option.none))) Option.none)]) (.cond (.tmp 4) (.seq (.region [(.mk (Option.some 2) (.mv (.const (.slice
  Option.none 0 0))) Option.none)]) .ret) .skip)) (.seq (.region [(.mk (Option.some 5) (.mv (.tmp 0)) Option.none), (.mk (Option.some 6) (.nilCheck (.tmp 5)) Option.none), (.mk
  (Option.some 7) (.fieldAddr 3 (.tmp 6)) Option.none), (.mk (Option.some 8) (.load 1 Bool.false (.tmp 7)) Option.none), (.mk (Option.some 9) (.call 85 [(.tmp 8)]) Option.none),
  (.mk (Option.some 2) (.mv (.tmp 9)) Option.none)]) .ret))) 10 [(.tmp 2)])
def a81 : AFn :=
  (.mk (.seq (.region [(.mk (Option.some 2) (.mv (.const (.slice Option.none 0 0))) Option.none)]) (.seq (.seq (.region [(.mk (Option.some 6) (.mv (.tmp 0)) Option.none), (.mk
  (Option.some 7) (.eq .ptr Bool.false (.tmp 6) (.const (.pointer Option.none))) Option.none)]) (.cond (.tmp 7) (.seq (.region [(.mk (Option.some 2) (.mv (.const (.slice
  Option.none 0 0))) Option.none)]) .ret) .skip)) (.seq (.region [(.mk (Option.some 3) (.mv (.const (.slice Option.none 0 0))) Option.none)]) (.seq (.seq (.region [(.mk
  (Option.some 8) (.mv (.tmp 0)) Option.none), (.mk (Option.some 9) (.nilCheck (.tmp 8)) Option.none), (.mk (Option.some 10) (.fieldAddr 4 (.tmp 9)) Option.none), (.mk (Option.some
  11) (.load 1 Bool.false (.tmp 10)) Option.none), (.mk (Option.some 12) (.len (.tmp 11)) Option.none), (.mk (Option.some 13) (.mv (.const (.int .i64 0))) Option.none)]) (.block 0
  (.loop (.seq (.region [(.mk (Option.some 14) (.bin .lss (.tmp 13) (.tmp 12)) Option.none)]) (.seq (.cond (.tmp 14) .skip (.exit 0)) (.seq (.block 1 (.seq (.region [(.mk
  (Option.some 15) (.atSlice 1 (.tmp 11) (.tmp 13)) Option.none), (.mk (Option.some 16) (.load 1 Bool.false (.tmp 15)) Option.none), (.mk (Option.some 5) (.mv (.tmp 16))
  Option.none)]) (.region [(.mk (Option.some 17) (.mv (.tmp 3)) Option.none), (.mk (Option.some 18) (.mv (.tmp 5)) Option.none), (.mk (Option.some 19) (.call 85 [(.tmp 18)])
  Option.none), (.mk (Option.some 20) (.buildSlice 1 1 [(.slice Option.none 0 0 0 0)] [(0, (1, (.tmp 19)))]) Option.none), (.mk (Option.some 21) (.append Bool.false 1 24 (.tmp 17)
  (.tmp 20)) Option.none), (.mk (Option.some 3) (.mv (.tmp 21)) Option.none)]))) (.region [(.mk (Option.some 22) (.bin .add (.tmp 13) (.const (.int .i64 1))) Option.none), (.mk
  (Option.some 13) (.mv (.tmp 22)) Option.none)]))))))) (.seq (.region [(.mk (Option.some 23) (.mv (.tmp 3)) Option.none), (.mk (Option.some 2) (.mv (.tmp 23)) Option.none)])
  .ret))))) 24 [(.tmp 2)])
def a82 : AFn :=
  (.mk (.seq (.region [(.mk (Option.some 4) (.mv (.const .nilIface)) Option.none)]) (.seq (.seq (.region [(.mk (Option.some 5) (.mv (.tmp 1)) Option.none), (.mk (Option.some 6) (.eq
  (.iface Bool.true) Bool.false (.tmp 5) (.const .nilIface)) Option.none)]) (.cond (.tmp 6) (.seq (.region [(.mk (Option.some 4) (.mv (.const .nilIface)) Option.none)]) .ret)
  .skip)) (.seq (.region [(.mk (Option.some 7) (.mv (.tmp 1)) Option.none), (.mk (Option.some 8) (.build [.nilIface] [(0, (1, (.tmp 7)))]) Option.none), (.mk (Option.some 9) (.mv
  (.tmp 0)) Option.none), (.mk (Option.some 10) (.build [.nilIface, (.int .i64 0)] [(0, (1, (.tmp 8))), (1, (1, (.tmp 9)))]) Option.none), (.mk (Option.some 11) (.box (.tmp 10))
  Option.none), (.mk (Option.some 12) (.mkIface 251 (.tmp 11)) Option.none), (.mk (Option.some 4) (.mv (.tmp 12)) Option.none)]) .ret))) 13 [(.tmp 4)])
def a83 : AFn :=
  (.mk (.seq (.region [(.mk (Option.some 2) (.mv (.const (.int .i64 0))) Option.none)]) (.seq (.seq (.region [(.mk (Option.some 3) (.mv (.tmp 0)) Option.none), (.mk (Option.some 4)
  (.eq .ptr Bool.false (.tmp 3) (.const (.pointer Option.none))) Option.none)]) (.cond (.tmp 4) (.seq (.region [(.mk (Option.some 2) (.mv (.const (.int .i64 0))) Option.none)])
  .ret) .skip)) (.seq (.region [(.mk (Option.some 5) (.mv (.tmp 0)) Option.none), (.mk (Option.some 6) (.nilCheck (.tmp 5)) Option.none), (.mk (Option.some 7) (.fieldAddr 4 (.tmp
  6)) Option.none), (.mk (Option.some 8) (.load 1 Bool.false (.tmp 7)) Option.none), (.mk (Option.some 9) (.len (.tmp 8)) Option.none), (.mk (Option.some 2) (.mv (.tmp 9))
  Option.none)]) .ret))) 10 [(.tmp 2)])
def a84 : AFn :=
  (.mk (.seq (.region [(.mk (Option.some 2) (.mv (.const (.slice Option.none 0 0))) Option.none)]) (.seq (.seq (.region [(.mk (Option.some 5) (.mv (.tmp 0)) Option.none), (.mk
  (Option.some 6) (.eq .ptr Bool.false (.tmp 5) (.const (.pointer Option.none))) Option.none)]) (.cond (.tmp 6) (.seq (.region [(.mk (Option.some 2) (.mv (.const (.slice
  Option.none 0 0))) Option.none)]) .ret) .skip)) (.seq (.region [(.mk (Option.some 3) (.mv (.const (.slice Option.none 0 0))) Option.none)]) (.seq (.seq (.region [(.mk
  (Option.some 7) (.mv (.tmp 0)) Option.none), (.mk (Option.some 8) (.nilCheck (.tmp 7)) Option.none), (.mk (Option.some 9) (.fieldAddr 1 (.tmp 8)) Option.none), (.mk (Option.some
  10) (.load 1 Bool.false (.tmp 9)) Option.none), (.mk (Option.some 11) (.range Bool.true (.tmp 10)) Option.none)]) (.block 0 (.loop (.seq (.region [(.mk (Option.some 12) (.next
  Bool.false (.tmp 11)) Option.none), (.mk (Option.some 13) (.extract (.tmp 12) 0) Option.none)]) (.seq (.cond (.tmp 13) .skip (.exit 0)) (.block 1 (.seq (.region [(.mk
  (Option.some 14) (.entry (.tmp 11)) Option.none), (.mk (Option.some 15) (.extract (.tmp 14) 0) Option.none), (.mk (Option.some 4) (.mv (.tmp 15)) Option.none)]) (.region [(.mk
  (Option.some 16) (.mv (.tmp 3)) Option.none), (.mk (Option.some 17) (.mv (.tmp 4)) Option.none), (.mk (Option.some 18) (.buildSlice 1 1 [(.int .i64 0)] [(0, (1, (.tmp 17)))])
  Option.none), (.mk (Option.some 19) (.append Bool.false 1 8 (.tmp 16) (.tmp 18)) Option.none), (.mk (Option.some 3) (.mv (.tmp 19)) Option.none)])))))))) (.seq (.region [(.mk
  (Option.some 20) (.mv (.tmp 3)) Option.none), (.mk (Option.some 21) (.call 172 [(.tmp 20)]) Option.none)]) (.seq (.region [(.mk (Option.some 22) (.mv (.tmp 3)) Option.none), (.mk
  (Option.some 2) (.mv (.tmp 22)) Option.none)]) .ret)))))) 23 [(.tmp 2)])
def a85 : AFn :=
  (.mk (.seq (.region [(.mk (Option.some 2) (.mv (.const (.slice Option.none 0 0))) Option.none)]) (.seq (.seq (.region [(.mk (Option.some 3) (.mv (.tmp 0)) Option.none), (.mk
  (Option.some 4) (.eq .nilSlice Bool.false (.tmp 3) (.const (.slice Option.none 0 0))) Option.none)]) (.cond (.tmp 4) (.seq (.region [(.mk (Option.some 2) (.mv (.const (.slice
  Option.none 0 0))) Option.none)]) .ret) .skip)) (.seq (.region [(.mk (Option.some 5) (.buildSlice 0 1 [] []) Option.none), (.mk (Option.some 6) (.mv (.tmp 0)) Option.none), (.mk
  (Option.some 7) (.append Bool.false 1 1 (.tmp 5) (.tmp 6)) Option.none), (.mk (Option.some 2) (.mv (.tmp 7)) Option.none)]) .ret))) 8 [(.tmp 2)])
def a86 : AFn :=
  (.mk (.seq (.region [(.mk (Option.some 0) (.mv (.const (.pointer Option.none))) Option.none)]) (.seq (.region [(.mk (Option.some 1) (.build [(.int .i64 0), (.slice Option.none 0 0
  0 0)] []) Option.none), (.mk (Option.some 2) (.box (.tmp 1)) Option.none), (.mk (Option.some 0) (.mv (.tmp 2)) Option.none)]) .ret)) 3 [(.tmp 0)])
def a87 : AFn :=
  (.mk (.seq (.region [(.mk (Option.some 2) (.mv (.const (.int .i64 0))) Option.none)]) (.seq (.seq (.region [(.mk (Option.some 3) (.mv (.tmp 0)) Option.none), (.mk (Option.some 4)
  (.eq .ptr Bool.false (.tmp 3) (.const (.pointer Option.none))) Option.none)]) (.cond (.tmp 4) (.seq (.region [(.mk (Option.some 2) (.mv (.const (.int .i64 0))) Option.none)])
  .ret) .skip)) (.seq (.draws [((.mk (Option.some 5) (.mv (.tmp 0)) Option.none), (0, 11)), ((.mk (Option.some 6) (.nilCheck (.tmp 5)) Option.none), (0, 11)), ((.mk (Option.some 7)
  (.fieldAddr 0 (.tmp 6)) Option.none), (0, 11)), ((.mk (Option.some 8) (.load 1 Bool.false (.tmp 7)) Option.none), (0, 11)), ((.mk (Option.some 9) (.mv (.tmp 0)) Option.none), (0,
  11)), ((.mk (Option.some 10) (.nilCheck (.tmp 9)) Option.none), (0, 11)), ((.mk (Option.some 11) (.fieldAddr 1 (.tmp 10)) Option.none), (0, 11)), ((.mk (Option.some 12) (.load 1
  Bool.false (.tmp 11)) Option.none), (0, 11)), ((.mk (Option.some 13) (.len (.tmp 12)) Option.none), (0, 11)), ((.mk (Option.some 14) (.bin .add (.tmp 8) (.tmp 13)) Option.none),
  (0, 11)), ((.mk (Option.some 2) (.mv (.tmp 14)) Option.none), (0, 11))]) .ret))) 15 [(.tmp 2)])
def a88 : AFn :=
  (.mk (.seq (.region [(.mk (Option.some 4) (.mv (.const (.pointer Option.none))) Option.none), (.mk (Option.some 5) (.mv (.const .nilIface)) Option.none)]) (.seq (.seq (.region
  [(.mk (Option.some 7) (.mv (.tmp 0)) Option.none), (.mk (Option.some 8) (.eq .ptr Bool.false (.tmp 7) (.const (.pointer Option.none))) Option.none)]) (.cond (.tmp 8) (.seq
  (.region [(.mk (Option.some 9) (.call 90 [(.const (.int .i64 1))]) Option.none), (.mk (Option.some 4) (.mv (.const (.pointer Option.none))) Option.none), (.mk (Option.some 5)
  (.mv (.tmp 9)) Option.none)]) .ret) .skip)) (.seq (.seq (.region [(.mk (Option.some 10) (.mv (.tmp 0)) Option.none), (.mk (Option.some 11) (.nilCheck (.tmp 10)) Option.none),
  (.mk (Option.some 12) (.fieldAddr 2 (.tmp 11)) Option.none), (.mk (Option.some 13) (.load 1 Bool.false (.tmp 12)) Option.none), (.mk (Option.some 14) (.mv (.tmp 1)) Option.none),
  (.mk (Option.some 15) (.lookup (.int .i64) (.ptr Option.none) Bool.false (.tmp 13) (.tmp 14)) Option.none), (.mk (Option.some 6) (.mv (.tmp 15)) Option.none)]) (.seq (.region
  [(.mk (Option.some 16) (.mv (.tmp 6)) Option.none), (.mk (Option.some 17) (.eq .ptr Bool.true (.tmp 16) (.const (.pointer Option.none))) Option.none)]) (.cond (.tmp 17) (.seq
  (.region [(.mk (Option.some 18) (.mv (.tmp 6)) Option.none), (.mk (Option.some 4) (.mv (.tmp 18)) Option.none), (.mk (Option.some 5) (.mv (.const .nilIface)) Option.none)]) .ret)
  .skip))) (.seq (.region [(.mk (Option.some 19) (.mv (.tmp 1)) Option.none), (.mk (Option.some 20) (.call 90 [(.const (.int .i64 3))]) Option.none), (.mk (Option.some 21) (.call
  82 [(.tmp 19), (.tmp 20)]) Option.none), (.mk (Option.some 4) (.mv (.const (.pointer Option.none))) Option.none), (.mk (Option.some 5) (.mv (.tmp 21)) Option.none)]) .ret)))) 22
  [(.tmp 4), (.tmp 5)])
def a89 : AFn :=
  (.mk (.seq (.region [(.mk (Option.some 1) (.box (.tmp 0)) Option.none), (.mk (Option.some 2) (.mv (.const (.bool Bool.false))) Option.none)]) (.seq (.region [(.mk (Option.some 3)
  (.load 4 Bool.true (.tmp 1)) Option.none), (.mk (Option.some 4) (.call 173 [(.tmp 3)]) Option.none), (.mk (Option.some 5) (.mv (.tmp 4)) Option.none), (.mk (Option.some 6)
  (.fieldAddr 1 (.tmp 1)) (Option.some (5, Bool.true))), (.mk (Option.some 7) (.load 1 Bool.false (.tmp 6)) (Option.some (5, Bool.true))), (.mk (Option.some 8) (.call 174 [(.tmp
  7)]) (Option.some (5, Bool.true))), (.mk (Option.some 9) (.mv (.tmp 8)) (Option.some (5, Bool.true))), (.mk (Option.some 10) (.fieldAddr 1 (.tmp 1)) (Option.some (9,
  Bool.false))), (.mk (Option.some 11) (.load 1 Bool.false (.tmp 10)) (Option.some (9, Bool.false))), (.mk (Option.some 12) (.call 175 [(.tmp 11)]) (Option.some (9, Bool.false))),
  (.mk (Option.some 13) (.pick (.tmp 9) (.const (.bool Bool.true)) (.tmp 12)) (Option.some (5, Bool.true))), (.mk (Option.some 14) (.pick (.tmp 5) (.tmp 13) (.const (.bool
  Bool.false))) Option.none), (.mk (Option.some 2) (.mv (.tmp 14)) Option.none)]) .ret)) 15 [(.tmp 2)])
def a90 : AFn :=
  (.mk (.seq (.region [(.mk (Option.some 2) (.mv (.const .nilIface)) Option.none)]) (.seq (.seq (.region [(.mk (Option.some 3) (.mv (.tmp 0)) Option.none), (.mk (Option.some 4) (.bin
  .eql (.tmp 3) (.const (.int .i64 0))) Option.none)]) (.cond (.tmp 4) (.seq (.region [(.mk (Option.some 2) (.mv (.const .nilIface)) Option.none)]) .ret) .skip)) (.seq (.region
  [(.mk (Option.some 5) (.mv (.tmp 0)) Option.none), (.mk (Option.some 6) (.build [(.int .i64 0)] [(0, (1, (.tmp 5)))]) Option.none), (.mk (Option.some 7) (.box (.tmp 6))
  Option.none), (.mk (Option.some 8) (.mkIface 229 (.tmp 7)) Option.none), (.mk (Option.some 2) (.mv (.tmp 8)) Option.none)]) .ret))) 9 [(.tmp 2)])
def a91 : AFn :=
  (.mk (.seq (.region [(.mk (Option.some 6) (.mv (.const (.int .i64 0))) Option.none), (.mk (Option.some 7) (.mv (.const (.bool Bool.false))) Option.none)]) (.seq (.seq (.region
  [(.mk (Option.some 11) (.mv (.tmp 1)) Option.none), (.mk (Option.some 12) (.nilCheck (.tmp 11)) Option.none), (.mk (Option.some 13) (.fieldAddr 2 (.tmp 12)) Option.none), (.mk
  (Option.some 14) (.load 1 Bool.false (.tmp 13)) Option.none), (.mk (Option.some 15) (.mv (.tmp 2)) Option.none), (.mk (Option.some 16) (.lookup .str (.agg [(.str []), (.int .i64
  0), (.bool Bool.false)]) Bool.true (.tmp 14) (.tmp 15)) Option.none), (.mk (Option.some 10) (.mv (.tmp 16)) Option.none), (.mk (Option.some 17) (.extract (.tmp 10) 0)
  Option.none), (.mk (Option.some 18) (.extract (.tmp 10) 1) Option.none), (.mk (Option.some 8) (.alloc [(.str []), (.int .i64 0), (.bool Bool.false)]) Option.none), (.mk
  Option.none (.store 3 (.tmp 8) (.tmp 17)) Option.none), (.mk (Option.some 9) (.mv (.tmp 18)) Option.none)]) (.seq (.region [(.mk (Option.some 19) (.mv (.tmp 9)) Option.none)])
  (.cond (.tmp 19) (.seq (.draws [((.mk (Option.some 20) (.fieldAddr 1 (.tmp 8)) Option.none), (0, 6)), ((.mk (Option.some 21) (.load 1 Bool.false (.tmp 20)) Option.none), (0, 6)),
  ((.mk (Option.some 22) (.fieldAddr 2 (.tmp 8)) Option.none), (0, 6)), ((.mk (Option.some 23) (.load 1 Bool.false (.tmp 22)) Option.none), (0, 6)), ((.mk (Option.some 6) (.mv
  (.tmp 21)) Option.none), (0, 6)), ((.mk (Option.some 7) (.mv (.tmp 23)) Option.none), (0, 6))]) .ret) .skip))) (.seq (.seq (.region [(.mk (Option.some 24) (.mv (.tmp 1))
  Option.none), (.mk (Option.some 25) (.nilCheck (.tmp 24)) Option.none), (.mk (Option.some 26) (.fieldAddr 1 (.tmp 25)) Option.none), (.mk (Option.some 27) (.load 1 Bool.false
  (.tmp 26)) Option.none), (.mk (Option.some 28) (.mv (.tmp 2)) Option.none), (.mk (Option.some 29) (.call 118 [(.tmp 27), (.tmp 28)]) Option.none), (.mk (Option.some 30) (.un .not
  (.tmp 29)) Option.none)]) (.cond (.tmp 30) (.region [(.mk (Option.some 31) (.mv (.tmp 1)) Option.none), (.mk (Option.some 32) (.mv (.tmp 1)) Option.none), (.mk (Option.some 33)
  (.nilCheck (.tmp 32)) Option.none), (.mk (Option.some 34) (.fieldAddr 1 (.tmp 33)) Option.none), (.mk (Option.some 35) (.load 1 Bool.false (.tmp 34)) Option.none), (.mk
  (Option.some 36) (.mv (.tmp 2)) Option.none), (.mk (Option.some 37) (.buildSlice 1 1 [(.str [])] [(0, (1, (.tmp 36)))]) Option.none), (.mk (Option.some 38) (.append Bool.false 1
  16 (.tmp 35) (.tmp 37)) Option.none), (.mk (Option.some 39) (.nilCheck (.tmp 31)) Option.none), (.mk (Option.some 40) (.fieldAddr 1 (.tmp 39)) Option.none), (.mk Option.none
  (.store 1 (.tmp 40) (.tmp 38)) Option.none)]) .skip)) (.seq (.region [(.mk (Option.some 41) (.mv (.tmp 0)) Option.none), (.mk (Option.some 42) (.nilCheck (.tmp 41)) Option.none),
  (.mk (Option.some 43) (.fieldAddr 0 (.tmp 42)) Option.none), (.mk (Option.some 44) (.load 1 Bool.false (.tmp 43)) Option.none), (.mk (Option.some 45) (.mv (.tmp 2)) Option.none),
  (.mk (Option.some 46) (.call 176 [(.tmp 44), (.tmp 45)]) Option.none), (.mk (Option.some 47) (.extract (.tmp 46) 0) Option.none), (.mk (Option.some 48) (.extract (.tmp 46) 1)
  Option.none), (.mk (Option.some 6) (.mv (.tmp 47)) Option.none), (.mk (Option.some 7) (.mv (.tmp 48)) Option.none)]) .ret)))) 49 [(.tmp 6), (.tmp 7)])
def a92 : AFn :=
  (.mk (.seq (.region [(.mk (Option.some 3) (.box (.tmp 0)) Option.none), (.mk (Option.some 6) (.mv (.const (.int .i64 0))) Option.none), (.mk (Option.some 7) (.mv (.const (.bool
  Bool.false))) Option.none), (.mk (Option.some 8) (.mv (.const (.int .i64 0))) Option.none), (.mk (Option.some 9) (.mv (.const (.int .i64 0))) Option.none)]) (.seq (.seq (.region
  [(.mk (Option.some 10) (.load 4 Bool.true (.tmp 3)) Option.none), (.mk (Option.some 11) (.call 89 [(.tmp 10)]) Option.none), (.mk (Option.some 12) (.un .not (.tmp 11))
  Option.none)]) (.cond (.tmp 12) (.seq (.region [(.mk (Option.some 6) (.mv (.const (.int .i64 0))) Option.none), (.mk (Option.some 7) (.mv (.const (.bool Bool.false)))
  Option.none), (.mk (Option.some 8) (.mv (.const (.int .i64 0))) Option.none), (.mk (Option.some 9) (.mv (.const (.int .i64 2))) Option.none)]) .ret) .skip)) (.seq (.seq (.region
  [(.mk (Option.some 13) (.mv (.tmp 2)) Option.none), (.mk (Option.some 14) (.un .not (.tmp 13)) Option.none)]) (.cond (.tmp 14) (.region [(.mk (Option.some 1) (.mv (.const (.int
  .i64 0))) Option.none)]) .skip)) (.seq (.seq (.region [(.mk (Option.some 15) (.fieldAddr 0 (.tmp 3)) Option.none), (.mk (Option.some 16) (.load 1 Bool.false (.tmp 15))
  Option.none)]) (.block 0 (.seq (.region [(.mk (Option.some 18) (.bin .eql (.tmp 16) (.const (.int .i64 1))) Option.none), (.mk (Option.some 17) (.mv (.tmp 18)) Option.none)])
  (.cond (.tmp 17) (.seq (.region [(.mk (Option.some 19) (.mv (.tmp 1)) Option.none), (.mk (Option.some 20) (.mv (.tmp 2)) Option.none), (.mk (Option.some 21) (.mv (.tmp 1))
  Option.none), (.mk (Option.some 6) (.mv (.tmp 19)) Option.none), (.mk (Option.some 7) (.mv (.tmp 20)) Option.none), (.mk (Option.some 8) (.mv (.tmp 21)) Option.none), (.mk
  (Option.some 9) (.mv (.const (.int .i64 0))) Option.none)]) .ret) (.seq (.region [(.mk (Option.some 23) (.bin .eql (.tmp 16) (.const (.int .i64 2))) Option.none), (.mk
  (Option.some 22) (.mv (.tmp 23)) Option.none)]) (.cond (.tmp 22) (.seq (.draws [((.mk (Option.some 24) (.fieldAddr 2 (.tmp 3)) Option.none), (0, 8)), ((.mk (Option.some 25)
  (.load 1 Bool.false (.tmp 24)) Option.none), (0, 8)), ((.mk (Option.some 26) (.fieldAddr 2 (.tmp 3)) Option.none), (0, 8)), ((.mk (Option.some 27) (.load 1 Bool.false (.tmp 26))
  Option.none), (0, 8)), ((.mk (Option.some 6) (.mv (.tmp 25)) Option.none), (0, 8)), ((.mk (Option.some 7) (.mv (.const (.bool Bool.true))) Option.none), (0, 8)), ((.mk
  (Option.some 8) (.mv (.tmp 27)) Option.none), (0, 8)), ((.mk (Option.some 9) (.mv (.const (.int .i64 0))) Option.none), (0, 8))]) .ret) (.seq (.region [(.mk (Option.some 29)
  (.bin .eql (.tmp 16) (.const (.int .i64 3))) Option.none), (.mk (Option.some 28) (.mv (.tmp 29)) Option.none)]) (.cond (.tmp 28) (.seq (.region [(.mk (Option.some 30) (.mv (.tmp
  1)) Option.none), (.mk (Option.some 6) (.mv (.const (.int .i64 0))) Option.none), (.mk (Option.some 7) (.mv (.const (.bool Bool.false))) Option.none), (.mk (Option.some 8) (.mv
  (.tmp 30)) Option.none), (.mk (Option.some 9) (.mv (.const (.int .i64 0))) Option.none)]) .ret) (.seq (.region [(.mk (Option.some 32) (.bin .eql (.tmp 16) (.const (.int .i64 6)))
  Option.none), (.mk (Option.some 31) (.mv (.tmp 32)) Option.none)]) (.cond (.tmp 31) (.seq (.draws [((.mk (Option.some 33) (.mv (.tmp 1)) Option.none), (0, 12)), ((.mk
  (Option.some 34) (.fieldAddr 2 (.tmp 3)) Option.none), (0, 12)), ((.mk (Option.some 35) (.load 1 Bool.false (.tmp 34)) Option.none), (0, 12)), ((.mk (Option.some 36) (.bin .add
  (.tmp 33) (.tmp 35)) Option.none), (0, 12)), ((.mk (Option.some 37) (.mv (.tmp 1)) Option.none), (0, 12)), ((.mk (Option.some 38) (.fieldAddr 2 (.tmp 3)) Option.none), (0, 12)),
  ((.mk (Option.some 39) (.load 1 Bool.false (.tmp 38)) Option.none), (0, 12)), ((.mk (Option.some 40) (.bin .add (.tmp 37) (.tmp 39)) Option.none), (0, 12)), ((.mk (Option.some 6)
  (.mv (.tmp 36)) Option.none), (0, 12)), ((.mk (Option.some 7) (.mv (.const (.bool Bool.true))) Option.none), (0, 12)), ((.mk (Option.some 8) (.mv (.tmp 40)) Option.none), (0,
  12)), ((.mk (Option.some 9) (.mv (.const (.int .i64 0))) Option.none), (0, 12))]) .ret) .skip)))))))))) (.seq (.region [(.mk (Option.some 41) (.load 4 Bool.true (.tmp 3))
  Option.none), (.mk (Option.some 42) (.mv (.tmp 1)) Option.none), (.mk (Option.some 43) (.mv (.tmp 2)) Option.none), (.mk (Option.some 44) (.call 177 [(.tmp 41), (.tmp 42), (.tmp
  43)]) Option.none), (.mk (Option.some 45) (.extract (.tmp 44) 0) Option.none), (.mk (Option.some 46) (.extract (.tmp 44) 1) Option.none), (.mk (Option.some 47) (.extract (.tmp
  44) 2) Option.none), (.mk (Option.some 48) (.extract (.tmp 44) 3) Option.none), (.mk (Option.some 6) (.mv (.tmp 45)) Option.none), (.mk (Option.some 7) (.mv (.tmp 46))
  Option.none), (.mk (Option.some 8) (.mv (.tmp 47)) Option.none), (.mk (Option.some 9) (.mv (.tmp 48)) Option.none)]) .ret))))) 49 [(.tmp 6), (.tmp 7), (.tmp 8), (.tmp 9)])
def a93 : AFn :=
  (.mk (.seq (.region [(.mk (Option.some 6) (.mv (.const .nilIface)) Option.none)]) (.seq (.seq (.draws [((.mk (Option.some 13) (.mv (.tmp 0)) Option.none), (0, 12)), ((.mk
  (Option.some 14) (.nilCheck (.tmp 13)) Option.none), (0, 12)), ((.mk (Option.some 15) (.fieldAddr 1 (.tmp 14)) Option.none), (0, 12)), ((.mk (Option.some 16) (.load 1 Bool.false
  (.tmp 15)) Option.none), (0, 12)), ((.mk (Option.some 17) (.mv (.tmp 2)) Option.none), (0, 12)), ((.mk (Option.some 18) (.nilCheck (.tmp 17)) Option.none), (0, 12)), ((.mk
  (Option.some 19) (.fieldAddr 0 (.tmp 18)) Option.none), (0, 12)), ((.mk (Option.some 20) (.load 1 Bool.false (.tmp 19)) Option.none), (0, 12)), ((.mk (Option.some 21) (.mv (.tmp
  2)) Option.none), (0, 12)), ((.mk (Option.some 22) (.nilCheck (.tmp 21)) Option.none), (0, 12)), ((.mk (Option.some 23) (.fieldAddr 1 (.tmp 22)) Option.none), (0, 12)), ((.mk
  (Option.some 24) (.load 1 Bool.false (.tmp 23)) Option.none), (0, 12)), ((.mk (Option.some 25) (.call 178 [(.tmp 16), (.tmp 20), (.tmp 24)]) Option.none), (0, 13)), ((.mk
  (Option.some 26) (.call 90 [(.tmp 25)]) Option.none), (13, 15)), ((.mk (Option.some 7) (.mv (.tmp 26)) Option.none), (14, 15))]) (.seq (.region [(.mk (Option.some 27) (.mv (.tmp
  7)) Option.none), (.mk (Option.some 28) (.eq (.iface Bool.true) Bool.true (.tmp 27) (.const .nilIface)) Option.none)]) (.cond (.tmp 28) (.seq (.region [(.mk (Option.some 29) (.mv
  (.tmp 7)) Option.none), (.mk (Option.some 30) (.call 151 [(.const (.string (ByteArray.mk #[108, 111, 111, 107, 32, 98, 97, 99, 107]))), (.tmp 29)]) Option.none), (.mk
  (Option.some 6) (.mv (.tmp 30)) Option.none)]) .ret) .skip))) (.seq (.region [(.mk (Option.some 32) (.mv (.tmp 2)) Option.none), (.mk (Option.some 33) (.call 179 [(.tmp 32)])
  Option.none), (.mk (Option.some 31) (.mv (.tmp 33)) Option.none), (.mk (Option.some 34) (.extract (.tmp 31) 0) Option.none), (.mk (Option.some 35) (.extract (.tmp 31) 1)
  Option.none), (.mk (Option.some 8) (.mv (.tmp 34)) Option.none), (.mk (Option.some 9) (.mv (.tmp 35)) Option.none)]) (.seq (.seq (.region [(.mk (Option.some 36) (.mv (.tmp 8))
  Option.none), (.mk (Option.some 37) (.len (.tmp 36)) Option.none), (.mk (Option.some 38) (.bin .eql (.tmp 37) (.const (.int .i64 0))) Option.none)]) (.cond (.tmp 38) (.seq
  (.region [(.mk (Option.some 6) (.mv (.const .nilIface)) Option.none)]) .ret) .skip)) (.seq (.seq (.region [(.mk (Option.some 39) (.mv (.tmp 0)) Option.none), (.mk (Option.some
  40) (.nilCheck (.tmp 39)) Option.none), (.mk (Option.some 41) (.fieldAddr 0 (.tmp 40)) Option.none), (.mk (Option.some 42) (.load 1 Bool.false (.tmp 41)) Option.none), (.mk
  (Option.some 43) (.mv (.tmp 1)) Option.none), (.mk (Option.some 44) (.mv (.tmp 8)) Option.none), (.mk (Option.some 45) (.call 15 [(.tmp 42), (.tmp 43), (.tmp 44)]) Option.none),
  (.mk (Option.some 46) (.call 90 [(.tmp 45)]) Option.none), (.mk (Option.some 10) (.mv (.tmp 46)) Option.none)]) (.seq (.region [(.mk (Option.some 47) (.mv (.tmp 10))
  Option.none), (.mk (Option.some 48) (.eq (.iface Bool.true) Bool.true (.tmp 47) (.const .nilIface)) Option.none)]) (.cond (.tmp 48) (.seq (.region [(.mk (Option.some 49) (.mv
  (.tmp 10)) Option.none), (.mk (Option.some 50) (.call 151 [(.const (.string (ByteArray.mk #[112, 117, 116]))), (.tmp 49)]) Option.none), (.mk (Option.some 6) (.mv (.tmp 50))
  Option.none)]) .ret) .skip))) (.seq (.region [(.mk (Option.some 52) (.mv (.tmp 0)) Option.none), (.mk (Option.some 53) (.nilCheck (.tmp 52)) Option.none), (.mk (Option.some 54)
  (.fieldAddr 1 (.tmp 53)) Option.none), (.mk (Option.some 55) (.load 1 Bool.false (.tmp 54)) Option.none), (.mk (Option.some 56) (.mv (.tmp 9)) Option.none), (.mk (Option.some 57)
  (.call 180 [(.tmp 55), (.tmp 56)]) Option.none), (.mk (Option.some 51) (.mv (.tmp 57)) Option.none), (.mk (Option.some 58) (.extract (.tmp 51) 0) Option.none), (.mk (Option.some
  59) (.extract (.tmp 51) 1) Option.none), (.mk (Option.some 11) (.mv (.tmp 58)) Option.none), (.mk (Option.some 12) (.mv (.tmp 59)) Option.none)]) (.seq (.region [(.mk
  (Option.some 60) (.mv (.tmp 12)) Option.none), (.mk (Option.some 61) (.call 90 [(.tmp 60)]) Option.none), (.mk (Option.some 6) (.mv (.tmp 61)) Option.none)]) .ret))))))) 62
  [(.tmp 6)])
def a94 : AFn :=
  (.mk (.seq (.region [(.mk (Option.some 4) (.mv (.const (.bool Bool.false))) Option.none)]) (.seq (.region [(.mk (Option.some 5) (.alloc [(.ptr Option.none)]) Option.none)]) (.seq
  (.seq (.region [(.mk (Option.some 6) (.mv (.tmp 0)) Option.none), (.mk (Option.some 7) (.eq (.iface Bool.true) Bool.false (.tmp 6) (.const .nilIface)) Option.none), (.mk
  (Option.some 8) (.mv (.tmp 7)) Option.none), (.mk (Option.some 9) (.mv (.tmp 0)) (Option.some (8, Bool.false))), (.mk (Option.some 10) (.mkIface 231 (.tmp 5)) (Option.some (8,
  Bool.false))), (.mk (Option.some 11) (.call 153 [(.tmp 9), (.tmp 10)]) (Option.some (8, Bool.false))), (.mk (Option.some 12) (.un .not (.tmp 11)) (Option.some (8, Bool.false))),
  (.mk (Option.some 13) (.pick (.tmp 8) (.const (.bool Bool.true)) (.tmp 12)) Option.none)]) (.cond (.tmp 13) (.seq (.region [(.mk (Option.some 14) (.mv (.tmp 0)) Option.none),
  (.mk (Option.some 15) (.eq (.iface Bool.true) Bool.true (.tmp 14) (.const .nilIface)) Option.none), (.mk (Option.some 16) (.mv (.tmp 15)) Option.none), (.mk (Option.some 17) (.mv
  (.tmp 1)) (Option.some (16, Bool.true))), (.mk (Option.some 18) (.bin .eql (.tmp 17) (.const (.int .i64 2))) (Option.some (16, Bool.true))), (.mk (Option.some 19) (.pick (.tmp
  16) (.tmp 18) (.const (.bool Bool.false))) Option.none), (.mk (Option.some 4) (.mv (.tmp 19)) Option.none)]) .ret) .skip)) (.seq (.region [(.mk (Option.some 20) (.mv (.tmp 0))
  Option.none), (.mk (Option.some 21) (.mv (.tmp 1)) Option.none), (.mk (Option.some 22) (.build [(.int .i64 0)] [(0, (1, (.tmp 21)))]) Option.none), (.mk (Option.some 23) (.box
  (.tmp 22)) Option.none), (.mk (Option.some 24) (.mkIface 229 (.tmp 23)) Option.none), (.mk (Option.some 25) (.call 181 [(.tmp 20), (.tmp 24)]) Option.none), (.mk (Option.some 4)
  (.mv (.tmp 25)) Option.none)]) .ret)))) 26 [(.tmp 4)])
def a95 : AFn :=
  (.mk (.seq (.region [(.mk (Option.some 4) (.mv (.tmp 0)) Option.none), (.mk (Option.some 5) (.nilCheck (.tmp 4)) Option.none), (.mk (Option.some 6) (.fieldAddr 2 (.tmp 5))
  Option.none), (.mk (Option.some 7) (.load 1 Bool.false (.tmp 6)) Option.none), (.mk (Option.some 8) (.mv (.tmp 1)) Option.none), (.mk Option.none (.mapDel (.int .i64) (.tmp 7)
  (.tmp 8)) Option.none)]) (.region [(.mk (Option.some 9) (.mv (.tmp 0)) Option.none), (.mk (Option.some 10) (.call 182 [(.tmp 9)]) Option.none)])) 11 [])
def a99 : AFn :=
  (.mk (.seq (.region [(.mk (Option.some 6) (.alloc [(.int .i64 0), (.str []), (.int .i64 0), (.int .i64 0)]) Option.none)]) (.seq (.region [(.mk (Option.some 7) (.mv (.tmp 0))
  Option.none), (.mk (Option.some 8) (.mv (.tmp 1)) Option.none), (.mk (Option.some 9) (.mv (.tmp 2)) Option.none), (.mk (Option.some 10) (.build [(.int .i64 0), (.str []), (.int
  .i64 0), (.int .i64 0)] [(0, (1, (.tmp 7))), (1, (1, (.tmp 8))), (2, (1, (.tmp 9)))]) Option.none), (.mk Option.none (.store 4 (.tmp 6) (.tmp 10)) Option.none)]) .ret)) 11
  [(.cell 6 4 Bool.true)])
def a108 : AFn :=
  (.mk (.seq (.region [(.mk (Option.some 2) (.mv (.const (.pointer Option.none))) Option.none)]) (.seq (.region [(.mk (Option.some 6) (.build [(.slice Option.none 0 0 0 0)] [])
  Option.none), (.mk (Option.some 7) (.box (.tmp 6)) Option.none), (.mk (Option.some 3) (.mv (.tmp 7)) Option.none)]) (.seq (.seq (.region [(.mk (Option.some 8) (.mv (.tmp 0))
  Option.none), (.mk (Option.some 9) (.len (.tmp 8)) Option.none), (.mk (Option.some 10) (.mv (.const (.int .i64 0))) Option.none)]) (.block 0 (.loop (.seq (.region [(.mk
  (Option.some 11) (.bin .lss (.tmp 10) (.tmp 9)) Option.none)]) (.seq (.cond (.tmp 11) .skip (.exit 0)) (.seq (.block 1 (.seq (.region [(.mk (Option.some 12) (.atSlice 2 (.tmp 8)
  (.tmp 10)) Option.none), (.mk (Option.some 13) (.load 2 Bool.true (.tmp 12)) Option.none), (.mk (Option.some 5) (.alloc [(.str []), (.int .i64 0)]) Option.none), (.mk Option.none
  (.store 2 (.tmp 5) (.tmp 13)) Option.none)]) (.seq (.region [(.mk (Option.some 14) (.fieldAddr 0 (.tmp 5)) Option.none), (.mk (Option.some 15) (.load 1 Bool.false (.tmp 14))
  Option.none), (.mk (Option.some 16) (.lenStr (.tmp 15)) Option.none), (.mk (Option.some 17) (.bin .leq (.tmp 16) (.const (.int .i64 16))) Option.none)]) (.cond (.tmp 17) (.region
  [(.mk (Option.some 18) (.mv (.tmp 3)) Option.none), (.mk (Option.some 19) (.fieldAddr 0 (.tmp 5)) Option.none), (.mk (Option.some 20) (.load 1 Bool.false (.tmp 19)) Option.none),
  (.mk (Option.some 21) (.fieldAddr 1 (.tmp 5)) Option.none), (.mk (Option.some 22) (.load 1 Bool.false (.tmp 21)) Option.none), (.mk (Option.some 23) (.call 198 [(.tmp 18), (.tmp
  20), (.tmp 22)]) Option.none)]) .skip)))) (.region [(.mk (Option.some 24) (.bin .add (.tmp 10) (.const (.int .i64 1))) Option.none), (.mk (Option.some 10) (.mv (.tmp 24))
  Option.none)]))))))) (.seq (.region [(.mk (Option.some 25) (.mv (.tmp 3)) Option.none), (.mk (Option.some 2) (.mv (.tmp 25)) Option.none)]) .ret)))) 26 [(.tmp 2)])
def a118 : AFn :=
  (.mk (.seq (.region [(.mk (Option.some 4) (.mv (.const (.bool Bool.false))) Option.none)]) (.seq (.region [(.mk (Option.some 5) (.mv (.tmp 0)) Option.none), (.mk (Option.some 6)
  (.mv (.tmp 1)) Option.none), (.mk (Option.some 7) (.call 213 [(.tmp 5), (.tmp 6)]) Option.none), (.mk (Option.some 8) (.bin .geq (.tmp 7) (.const (.int .i64 0))) Option.none),
  (.mk (Option.some 4) (.mv (.tmp 8)) Option.none)]) .ret)) 9 [(.tmp 4)])
def a119 : AFn :=
  (.mk (.seq (.region [(.mk (Option.some 2) (.mv (.const (.slice Option.none 0 0))) Option.none)]) (.seq (.region [(.mk (Option.some 3) (.mv (.const (.slice Option.none 0 0)))
  Option.none)]) (.seq (.seq (.region [(.mk (Option.some 6) (.mv (.tmp 0)) Option.none), (.mk (Option.some 7) (.len (.tmp 6)) Option.none), (.mk (Option.some 8) (.mv (.const (.int
  .i64 0))) Option.none)]) (.block 0 (.loop (.seq (.region [(.mk (Option.some 9) (.bin .lss (.tmp 8) (.tmp 7)) Option.none)]) (.seq (.cond (.tmp 9) .skip (.exit 0)) (.seq (.block 1
  (.seq (.region [(.mk (Option.some 10) (.atSlice 1 (.tmp 6) (.tmp 8)) Option.none), (.mk (Option.some 11) (.load 1 Bool.false (.tmp 10)) Option.none), (.mk (Option.some 5) (.mv
  (.tmp 11)) Option.none)]) (.region [(.mk (Option.some 12) (.mv (.tmp 3)) Option.none), (.mk (Option.some 13) (.mv (.tmp 5)) Option.none), (.mk (Option.some 14) (.append
  Bool.false 1 1 (.tmp 12) (.tmp 13)) Option.none), (.mk (Option.some 3) (.mv (.tmp 14)) Option.none)]))) (.region [(.mk (Option.some 15) (.bin .add (.tmp 8) (.const (.int .i64
  1))) Option.none), (.mk (Option.some 8) (.mv (.tmp 15)) Option.none)]))))))) (.seq (.region [(.mk (Option.some 16) (.mv (.tmp 3)) Option.none), (.mk (Option.some 2) (.mv (.tmp
  16)) Option.none)]) .ret)))) 17 [(.tmp 2)])
def a120 : AFn :=
  (.mk (.seq (.region [(.mk (Option.some 2) (.mv (.const (.slice Option.none 0 0))) Option.none)]) (.seq (.region [(.mk (Option.some 3) (.alloc [(.int .u8 0), (.int .u8 0), (.int .u8
  0), (.int .u8 0), (.int .u8 0), (.int .u8 0), (.int .u8 0), (.int .u8 0), (.int .u8 0)]) Option.none)]) (.seq (.region [(.mk (Option.some 4) (.mv (.const (.int .i64 0)))
  Option.none)]) (.seq (.seq (.region [(.mk (Option.some 6) (.mv (.tmp 0)) Option.none), (.mk (Option.some 5) (.mv (.tmp 6)) Option.none)]) (.block 0 (.loop (.seq (.seq (.region
  [(.mk (Option.some 7) (.mv (.tmp 5)) Option.none), (.mk (Option.some 8) (.bin .gtr (.tmp 7) (.const (.int .u64 0))) Option.none)]) (.cond (.tmp 8) .skip (.exit 0))) (.seq (.block
  1 (.seq (.region [(.mk (Option.some 11) (.mv (.tmp 4)) Option.none), (.mk (Option.some 12) (.bin .add (.tmp 11) (.const (.int .i64 1))) Option.none), (.mk (Option.some 4) (.mv
  (.tmp 12)) Option.none)]) (.region [(.mk (Option.some 13) (.mv (.tmp 4)) Option.none), (.mk (Option.some 14) (.bin .sub (.const (.int .i64 9)) (.tmp 13)) Option.none), (.mk
  (Option.some 15) (.mv (.tmp 5)) Option.none), (.mk (Option.some 16) (.conv .u8 (.tmp 15)) Option.none), (.mk (Option.some 17) (.atArray 9 1 (.tmp 3) (.tmp 14)) Option.none), (.mk
  Option.none (.store 1 (.tmp 17) (.tmp 16)) Option.none)]))) (.region [(.mk (Option.some 9) (.mv (.tmp 5)) Option.none), (.mk (Option.some 10) (.bin .shr (.tmp 9) (.const (.int
  .u64 8))) Option.none), (.mk (Option.some 5) (.mv (.tmp 10)) Option.none)])))))) (.seq (.region [(.mk (Option.some 18) (.mv (.tmp 4)) Option.none), (.mk (Option.some 19) (.bin
  .sub (.const (.int .i64 8)) (.tmp 18)) Option.none), (.mk (Option.some 20) (.mv (.tmp 4)) Option.none), (.mk (Option.some 21) (.conv .u8 (.tmp 20)) Option.none), (.mk
  (Option.some 22) (.atArray 9 1 (.tmp 3) (.tmp 19)) Option.none), (.mk Option.none (.store 1 (.tmp 22) (.tmp 21)) Option.none)]) (.seq (.region [(.mk (Option.some 23) (.buildSlice
  0 1 [] []) Option.none), (.mk (Option.some 24) (.mv (.tmp 4)) Option.none), (.mk (Option.some 25) (.bin .sub (.const (.int .i64 8)) (.tmp 24)) Option.none), (.mk (Option.some 26)
  (.cutArray 9 1 (.tmp 3) (Option.some (.tmp 25)) Option.none Option.none) Option.none), (.mk (Option.some 27) (.append Bool.false 1 1 (.tmp 23) (.tmp 26)) Option.none), (.mk
  (Option.some 2) (.mv (.tmp 27)) Option.none)]) .ret)))))) 28 [(.tmp 2)])
def a121 : AFn :=
  (.mk (.seq (.region [(.mk (Option.some 2) (.mv (.const (.slice Option.none 0 0))) Option.none)]) (.seq (.region [(.mk (Option.some 6) (.mv (.tmp 0)) Option.none), (.mk (Option.some
  7) (.len (.tmp 6)) Option.none), (.mk (Option.some 8) (.conv .u64 (.tmp 7)) Option.none), (.mk (Option.some 9) (.call 120 [(.tmp 8)]) Option.none), (.mk (Option.some 3) (.mv
  (.tmp 9)) Option.none)]) (.seq (.seq (.region [(.mk (Option.some 10) (.mv (.tmp 0)) Option.none), (.mk (Option.some 11) (.len (.tmp 10)) Option.none), (.mk (Option.some 12) (.mv
  (.const (.int .i64 0))) Option.none)]) (.block 0 (.loop (.seq (.region [(.mk (Option.some 13) (.bin .lss (.tmp 12) (.tmp 11)) Option.none)]) (.seq (.cond (.tmp 13) .skip (.exit
  0)) (.seq (.block 1 (.seq (.region [(.mk (Option.some 14) (.atSlice 3 (.tmp 10) (.tmp 12)) Option.none), (.mk (Option.some 15) (.load 3 Bool.true (.tmp 14)) Option.none), (.mk
  (Option.some 5) (.alloc [(.str []), (.int .i64 0), (.bool Bool.false)]) Option.none), (.mk Option.none (.store 3 (.tmp 5) (.tmp 15)) Option.none)]) (.seq (.draws [((.mk
  (Option.some 16) (.mv (.tmp 3)) Option.none), (0, 9)), ((.mk (Option.some 17) (.fieldAddr 0 (.tmp 5)) Option.none), (0, 3)), ((.mk (Option.some 18) (.load 1 Bool.false (.tmp 17))
  Option.none), (0, 3)), ((.mk (Option.some 19) (.call 214 [(.tmp 18)]) Option.none), (0, 6)), ((.mk (Option.some 20) (.fieldAddr 2 (.tmp 5)) Option.none), (0, 6)), ((.mk
  (Option.some 21) (.load 1 Bool.false (.tmp 20)) Option.none), (0, 6)), ((.mk (Option.some 22) (.call 215 [(.tmp 21)]) Option.none), (4, 7)), ((.mk (Option.some 23) (.buildSlice 2
  1 [(.slice Option.none 0 0 0 0), (.slice Option.none 0 0 0 0)] [(0, (1, (.tmp 19))), (1, (1, (.tmp 22)))]) Option.none), (7, 8)), ((.mk (Option.some 24) (.call 119 [(.tmp 23)])
  Option.none), (8, 9)), ((.mk (Option.some 25) (.append Bool.false 1 1 (.tmp 16) (.tmp 24)) Option.none), (9, 11)), ((.mk (Option.some 3) (.mv (.tmp 25)) Option.none), (10, 11))])
  (.seq (.region [(.mk (Option.some 26) (.fieldAddr 2 (.tmp 5)) Option.none), (.mk (Option.some 27) (.load 1 Bool.false (.tmp 26)) Option.none)]) (.cond (.tmp 27) (.region [(.mk
  (Option.some 28) (.mv (.tmp 3)) Option.none), (.mk (Option.some 29) (.fieldAddr 1 (.tmp 5)) Option.none), (.mk (Option.some 30) (.load 1 Bool.false (.tmp 29)) Option.none), (.mk
  (Option.some 31) (.call 216 [(.tmp 30)]) Option.none), (.mk (Option.some 32) (.append Bool.false 1 1 (.tmp 28) (.tmp 31)) Option.none), (.mk (Option.some 3) (.mv (.tmp 32))
  Option.none)]) .skip))))) (.region [(.mk (Option.some 33) (.bin .add (.tmp 12) (.const (.int .i64 1))) Option.none), (.mk (Option.some 12) (.mv (.tmp 33)) Option.none)])))))))
  (.seq (.region [(.mk (Option.some 34) (.mv (.tmp 3)) Option.none), (.mk (Option.some 2) (.mv (.tmp 34)) Option.none)]) .ret)))) 35 [(.tmp 2)])
def a145 : AFn :=
  (.mk (.seq (.region [(.mk (Option.some 2) (.mv (.const (.int .i64 0))) Option.none)]) (.seq (.region [(.mk (Option.some 3) (.mv (.const (.int .i64 0))) Option.none)]) (.seq (.seq
  (.region [(.mk (Option.some 6) (.mv (.tmp 0)) Option.none), (.mk (Option.some 7) (.call 84 [(.tmp 6)]) Option.none), (.mk (Option.some 8) (.len (.tmp 7)) Option.none), (.mk
  (Option.some 9) (.mv (.const (.int .i64 0))) Option.none)]) (.block 0 (.loop (.seq (.region [(.mk (Option.some 10) (.bin .lss (.tmp 9) (.tmp 8)) Option.none)]) (.seq (.cond (.tmp
  10) .skip (.exit 0)) (.seq (.block 1 (.seq (.region [(.mk (Option.some 11) (.atSlice 1 (.tmp 7) (.tmp 9)) Option.none), (.mk (Option.some 12) (.load 1 Bool.false (.tmp 11))
  Option.none), (.mk (Option.some 5) (.mv (.tmp 12)) Option.none)]) (.region [(.mk (Option.some 13) (.mv (.tmp 3)) Option.none), (.mk (Option.some 14) (.mv (.tmp 0)) Option.none),
  (.mk (Option.some 15) (.nilCheck (.tmp 14)) Option.none), (.mk (Option.some 16) (.fieldAddr 1 (.tmp 15)) Option.none), (.mk (Option.some 17) (.load 1 Bool.false (.tmp 16))
  Option.none), (.mk (Option.some 18) (.mv (.tmp 5)) Option.none), (.mk (Option.some 19) (.lookup (.int .i64) (.agg [(.slice Option.none 0 0 0 0), (.int .i64 0)]) Bool.false (.tmp
  17) (.tmp 18)) Option.none), (.mk (Option.some 20) (.field 0 1 Bool.false (.tmp 19)) Option.none), (.mk (Option.some 21) (.len (.tmp 20)) Option.none), (.mk (Option.some 22)
  (.bin .add (.tmp 13) (.tmp 21)) Option.none), (.mk (Option.some 3) (.mv (.tmp 22)) Option.none)]))) (.region [(.mk (Option.some 23) (.bin .add (.tmp 9) (.const (.int .i64 1)))
  Option.none), (.mk (Option.some 9) (.mv (.tmp 23)) Option.none)]))))))) (.seq (.region [(.mk (Option.some 24) (.mv (.tmp 3)) Option.none), (.mk (Option.some 2) (.mv (.tmp 24))
  Option.none)]) .ret)))) 25 [(.tmp 2)])
def a151 : AFn :=
  (.mk (.seq (.region [(.mk (Option.some 4) (.mv (.const .nilIface)) Option.none)]) (.seq (.seq (.region [(.mk (Option.some 5) (.mv (.tmp 1)) Option.none), (.mk (Option.some 6) (.eq
  (.iface Bool.true) Bool.false (.tmp 5) (.const .nilIface)) Option.none)]) (.cond (.tmp 6) (.seq (.region [(.mk (Option.some 4) (.mv (.const .nilIface)) Option.none)]) .ret)
  .skip)) (.seq (.region [(.mk (Option.some 7) (.mv (.tmp 1)) Option.none), (.mk (Option.some 8) (.build [.nilIface] [(0, (1, (.tmp 7)))]) Option.none), (.mk (Option.some 9) (.mv
  (.tmp 0)) Option.none), (.mk (Option.some 10) (.build [.nilIface, (.str [])] [(0, (1, (.tmp 8))), (1, (1, (.tmp 9)))]) Option.none), (.mk (Option.some 11) (.box (.tmp 10))
  Option.none), (.mk (Option.some 12) (.mkIface 352 (.tmp 11)) Option.none), (.mk (Option.some 4) (.mv (.tmp 12)) Option.none)]) .ret))) 13 [(.tmp 4)])
def a152 : AFn :=
  (.mk (.seq (.region [(.mk (Option.some 4) (.mv (.const (.int .i64 0))) Option.none)]) (.seq (.seq (.region [(.mk (Option.some 9) (.mv (.tmp 0)) Option.none), (.mk (Option.some 10)
  (.eq .ptr Bool.false (.tmp 9) (.const (.pointer Option.none))) Option.none)]) (.cond (.tmp 10) (.seq (.region [(.mk (Option.some 4) (.mv (.const (.int .i64 1))) Option.none)])
  .ret) .skip)) (.seq (.seq (.region [(.mk (Option.some 11) (.mv (.tmp 1)) Option.none), (.mk (Option.some 12) (.call 250 [(.tmp 11), (.func 251)]) Option.none)]) (.cond (.tmp 12)
  (.seq (.region [(.mk (Option.some 4) (.mv (.const (.int .i64 2))) Option.none)]) .ret) .skip)) (.seq (.region [(.mk (Option.some 13) (.mv (.tmp 0)) Option.none), (.mk
  (Option.some 14) (.call 199 [(.tmp 13)]) Option.none), (.mk (Option.some 5) (.mv (.tmp 14)) Option.none)]) (.seq (.seq (.region [(.mk (Option.some 15) (.mv (.tmp 1))
  Option.none), (.mk (Option.some 16) (.len (.tmp 15)) Option.none), (.mk (Option.some 17) (.mv (.const (.int .i64 0))) Option.none)]) (.block 0 (.loop (.seq (.region [(.mk
  (Option.some 18) (.bin .lss (.tmp 17) (.tmp 16)) Option.none)]) (.seq (.cond (.tmp 18) .skip (.exit 0)) (.seq (.block 1 (.seq (.region [(.mk (Option.some 19) (.atSlice 3 (.tmp
  15) (.tmp 17)) Option.none), (.mk (Option.some 20) (.load 3 Bool.true (.tmp 19)) Option.none), (.mk (Option.some 7) (.alloc [(.str []), (.int .i64 0), (.bool Bool.false)])
  Option.none), (.mk Option.none (.store 3 (.tmp 7) (.tmp 20)) Option.none)]) (.seq (.seq (.region [(.mk (Option.some 21) (.fieldAddr 2 (.tmp 7)) Option.none), (.mk (Option.some
  22) (.load 1 Bool.false (.tmp 21)) Option.none), (.mk (Option.some 23) (.un .not (.tmp 22)) Option.none)]) (.cond (.tmp 23) (.seq (.region [(.mk (Option.some 24) (.mv (.tmp 5))
  Option.none), (.mk (Option.some 25) (.fieldAddr 0 (.tmp 7)) Option.none), (.mk (Option.some 26) (.load 1 Bool.false (.tmp 25)) Option.none), (.mk (Option.some 27) (.call 253
  [(.tmp 24), (.tmp 26)]) Option.none)]) (.exit 1)) .skip)) (.seq (.region [(.mk (Option.some 28) (.mv (.tmp 5)) Option.none), (.mk (Option.some 29) (.fieldAddr 0 (.tmp 7))
  Option.none), (.mk (Option.some 30) (.load 1 Bool.false (.tmp 29)) Option.none), (.mk (Option.some 31) (.fieldAddr 1 (.tmp 7)) Option.none), (.mk (Option.some 32) (.load 1
  Bool.false (.tmp 31)) Option.none), (.mk (Option.some 33) (.call 198 [(.tmp 28), (.tmp 30), (.tmp 32)]) Option.none), (.mk (Option.some 8) (.mv (.tmp 33)) Option.none)]) (.seq
  (.region [(.mk (Option.some 34) (.mv (.tmp 8)) Option.none), (.mk (Option.some 35) (.eq (.iface Bool.true) Bool.true (.tmp 34) (.const .nilIface)) Option.none)]) (.cond (.tmp 35)
  (.seq (.region [(.mk (Option.some 36) (.mv (.tmp 8)) Option.none), (.mk (Option.some 37) (.call 67 [(.tmp 36)]) Option.none), (.mk (Option.some 4) (.mv (.tmp 37)) Option.none)])
  .ret) .skip)))))) (.region [(.mk (Option.some 38) (.bin .add (.tmp 17) (.const (.int .i64 1))) Option.none), (.mk (Option.some 17) (.mv (.tmp 38)) Option.none)]))))))) (.seq
  (.region [(.mk (Option.some 39) (.mv (.tmp 0)) Option.none), (.mk (Option.some 40) (.mv (.tmp 5)) Option.none), (.mk (Option.some 41) (.nilCheck (.tmp 40)) Option.none), (.mk
  (Option.some 42) (.fieldAddr 0 (.tmp 41)) Option.none), (.mk (Option.some 43) (.load 1 Bool.false (.tmp 42)) Option.none), (.mk (Option.some 44) (.nilCheck (.tmp 39))
  Option.none), (.mk (Option.some 45) (.fieldAddr 0 (.tmp 44)) Option.none), (.mk Option.none (.store 1 (.tmp 45) (.tmp 43)) Option.none)]) (.seq (.region [(.mk (Option.some 4)
  (.mv (.const (.int .i64 0))) Option.none)]) .ret))))))) 46 [(.tmp 4)])
def a153 : AFn :=
  (.mk (.seq (.region [(.mk (Option.some 4) (.mv (.const (.bool Bool.false))) Option.none)]) (.seq (.seq (.region [(.mk (Option.some 8) (.mv (.tmp 0)) Option.none), (.mk (Option.some
  9) (.eq (.iface Bool.true) Bool.false (.tmp 8) (.const .nilIface)) Option.none)]) (.cond (.tmp 9) (.seq (.region [(.mk (Option.some 4) (.mv (.const (.bool Bool.false)))
  Option.none)]) .ret) .skip)) (.seq (.seq (.region [(.mk (Option.some 10) (.mv (.tmp 1)) Option.none), (.mk (Option.some 11) (.eq (.iface Bool.true) Bool.false (.tmp 10) (.const
  .nilIface)) Option.none)]) (.cond (.tmp 11) (.region [(.mk (Option.some 12) (.mkIface 9 (.const (.string (ByteArray.mk #[101, 114, 114, 111, 114, 115, 58, 32, 116, 97, 114, 103,
  101, 116, 32, 99, 97, 110, 110, 111, 116, 32, 98, 101, 32, 110, 105, 108])))) Option.none), (.mk Option.none (.extract (.const (.bool Bool.false)) 0) Option.none)]) .skip)) (.seq
  (.region [(.mk (Option.some 13) (.mv (.tmp 1)) Option.none), (.mk (Option.some 14) (.call 254 [(.tmp 13)]) Option.none), (.mk (Option.some 5) (.alloc [(.ptr Option.none), (.ptr
  Option.none), (.int .u64 0)]) Option.none), (.mk Option.none (.store 3 (.tmp 5) (.tmp 14)) Option.none)]) (.seq (.region [(.mk (Option.some 15) (.load 3 Bool.true (.tmp 5))
  Option.none), (.mk (Option.some 16) (.call 255 [(.tmp 15)]) Option.none), (.mk (Option.some 6) (.mv (.tmp 16)) Option.none)]) (.seq (.seq (.region [(.mk (Option.some 17) (.mv
  (.tmp 6)) Option.none), (.mk (Option.some 18) (.invoke (.tmp 17) [(17, (430, Option.none)), (361, (445, Option.none)), (429, (430, (Option.some (0, (0, Bool.false))))), (430,
  (430, (Option.some (0, (0, Bool.false)))))] []) Option.none), (.mk (Option.some 19) (.bin .neq (.tmp 18) (.const (.int .u8 22))) Option.none), (.mk (Option.some 20) (.mv (.tmp
  19)) Option.none), (.mk (Option.some 21) (.load 3 Bool.true (.tmp 5)) (Option.some (20, Bool.false))), (.mk (Option.some 22) (.call 256 [(.tmp 21)]) (Option.some (20,
  Bool.false))), (.mk (Option.some 23) (.pick (.tmp 20) (.const (.bool Bool.true)) (.tmp 22)) Option.none)]) (.cond (.tmp 23) (.region [(.mk (Option.some 24) (.mkIface 9 (.const
  (.string (ByteArray.mk #[101, 114, 114, 111, 114, 115, 58, 32, 116, 97, 114, 103, 101, 116, 32, 109, 117, 115, 116, 32, 98, 101, 32, 97, 32, 110, 111, 110, 45, 110, 105, 108, 32,
  112, 111, 105, 110, 116, 101, 114])))) Option.none), (.mk Option.none (.extract (.const (.bool Bool.false)) 0) Option.none)]) .skip)) (.seq (.region [(.mk (Option.some 25) (.mv
  (.tmp 6)) Option.none), (.mk (Option.some 26) (.invoke (.tmp 25) [(17, (429, Option.none)), (361, (344, Option.none)), (429, (429, (Option.some (0, (0, Bool.false))))), (430,
  (450, Option.none))] []) Option.none), (.mk (Option.some 7) (.mv (.tmp 26)) Option.none)]) (.seq (.seq (.region [(.mk (Option.some 27) (.mv (.tmp 7)) Option.none), (.mk
  (Option.some 28) (.invoke (.tmp 27) [(17, (430, Option.none)), (361, (445, Option.none)), (429, (430, (Option.some (0, (0, Bool.false))))), (430, (430, (Option.some (0, (0,
  Bool.false)))))] []) Option.none), (.mk (Option.some 29) (.bin .neq (.tmp 28) (.const (.int .u8 20))) Option.none), (.mk (Option.some 30) (.mv (.tmp 29)) Option.none), (.mk
  (Option.some 31) (.mv (.tmp 7)) (Option.some (30, Bool.true))), (.mk (Option.some 32) (.load 1 Bool.false (.global 0)) (Option.some (30, Bool.true))), (.mk (Option.some 33)
  (.invoke (.tmp 31) [(430, (451, Option.none))] [(.tmp 32)]) (Option.some (30, Bool.true))), (.mk (Option.some 34) (.un .not (.tmp 33)) (Option.some (30, Bool.true))), (.mk
  (Option.some 35) (.pick (.tmp 30) (.tmp 34) (.const (.bool Bool.false))) Option.none)]) (.cond (.tmp 35) (.region [(.mk (Option.some 36) (.mkIface 9 (.const (.string
  (ByteArray.mk #[101, 114, 114, 111, 114, 115, 58, 32, 42, 116, 97, 114, 103, 101, 116, 32, 109, 117, 115, 116, 32, 98, 101, 32, 105, 110, 116, 101, 114, 102, 97, 99, 101, 32,
  111, 114, 32, 105, 109, 112, 108, 101, 109, 101, 110, 116, 32, 101, 114, 114, 111, 114])))) Option.none), (.mk Option.none (.extract (.const (.bool Bool.false)) 0) Option.none)])
  .skip)) (.seq (.region [(.mk (Option.some 37) (.mv (.tmp 0)) Option.none), (.mk (Option.some 38) (.mv (.tmp 1)) Option.none), (.mk (Option.some 39) (.load 3 Bool.true (.tmp 5))
  Option.none), (.mk (Option.some 40) (.mv (.tmp 7)) Option.none), (.mk (Option.some 41) (.call 257 [(.tmp 37), (.tmp 38), (.tmp 39), (.tmp 40)]) Option.none), (.mk (Option.some 4)
  (.mv (.tmp 41)) Option.none)]) .ret))))))))) 42 [(.tmp 4)])
def a154 : AFn :=
  (.mk (.seq (.region [(.mk (Option.some 4) (.mv (.const .nilIface)) Option.none)]) (.seq (.seq (.region [(.mk (Option.some 12) (.mv (.tmp 1)) Option.none), (.mk (Option.some 13)
  (.len (.tmp 12)) Option.none), (.mk (Option.some 14) (.bin .eql (.tmp 13) (.const (.int .i64 0))) Option.none)]) (.cond (.tmp 14) (.seq (.region [(.mk (Option.some 4) (.mv
  (.const .nilIface)) Option.none)]) .ret) .skip)) (.seq (.region [(.mk (Option.some 5) (.mv (.const (.slice Option.none 0 0))) Option.none)]) (.seq (.seq (.region [(.mk
  (Option.some 15) (.mv (.tmp 1)) Option.none), (.mk (Option.some 16) (.len (.tmp 15)) Option.none), (.mk (Option.some 17) (.mv (.const (.int .i64 0))) Option.none)]) (.block 0
  (.loop (.seq (.region [(.mk (Option.some 18) (.bin .lss (.tmp 17) (.tmp 16)) Option.none)]) (.seq (.cond (.tmp 18) .skip (.exit 0)) (.seq (.block 1 (.seq (.region [(.mk
  (Option.some 19) (.mv (.tmp 17)) Option.none), (.mk (Option.some 20) (.atSlice 1 (.tmp 15) (.tmp 17)) Option.none), (.mk (Option.some 21) (.load 1 Bool.false (.tmp 20))
  Option.none), (.mk (Option.some 6) (.mv (.tmp 19)) Option.none), (.mk (Option.some 7) (.mv (.tmp 21)) Option.none)]) (.seq (.seq (.region [(.mk (Option.some 22) (.mv (.tmp 7))
  Option.none), (.mk (Option.some 23) (.len (.tmp 22)) Option.none), (.mk (Option.some 24) (.bin .gtr (.tmp 23) (.const (.int .i64 16383))) Option.none)]) (.cond (.tmp 24) (.seq
  (.region [(.mk (Option.some 25) (.mv (.tmp 6)) Option.none), (.mk (Option.some 26) (.mv (.tmp 7)) Option.none), (.mk (Option.some 27) (.len (.tmp 26)) Option.none), (.mk
  (Option.some 28) (.call 90 [(.const (.int .i64 7))]) Option.none), (.mk (Option.some 29) (.call 150 [(.const (.int .i64 16383)), (.tmp 27), (.tmp 28)]) Option.none), (.mk
  (Option.some 30) (.call 82 [(.tmp 25), (.tmp 29)]) Option.none), (.mk (Option.some 4) (.mv (.tmp 30)) Option.none)]) .ret) .skip)) (.region [(.mk (Option.some 31) (.mv (.tmp 5))
  Option.none), (.mk (Option.some 32) (.buildSlice 1 1 [(.int .u8 0)] [(0, (1, (.const (.int .u8 0))))]) Option.none), (.mk (Option.some 33) (.mv (.tmp 7)) Option.none), (.mk
  (Option.some 34) (.buildSlice 2 1 [(.slice Option.none 0 0 0 0), (.slice Option.none 0 0 0 0)] [(0, (1, (.tmp 32))), (1, (1, (.tmp 33)))]) Option.none), (.mk (Option.some 35)
  (.call 160 [(.tmp 34)]) Option.none), (.mk (Option.some 36) (.append Bool.false 1 1 (.tmp 31) (.tmp 35)) Option.none), (.mk (Option.some 5) (.mv (.tmp 36)) Option.none)]))))
  (.region [(.mk (Option.some 37) (.bin .add (.tmp 17) (.const (.int .i64 1))) Option.none), (.mk (Option.some 17) (.mv (.tmp 37)) Option.none)]))))))) (.seq (.region [(.mk
  (Option.some 39) (.mv (.tmp 0)) Option.none), (.mk (Option.some 40) (.mv (.tmp 5)) Option.none), (.mk (Option.some 41) (.len (.tmp 40)) Option.none), (.mk (Option.some 42) (.call
  258 [(.tmp 39), (.tmp 41)]) Option.none), (.mk (Option.some 38) (.mv (.tmp 42)) Option.none), (.mk (Option.some 43) (.extract (.tmp 38) 0) Option.none), (.mk (Option.some 44)
  (.extract (.tmp 38) 1) Option.none), (.mk (Option.some 8) (.mv (.tmp 43)) Option.none), (.mk (Option.some 9) (.mv (.tmp 44)) Option.none)]) (.seq (.seq (.region [(.mk
  (Option.some 45) (.mv (.tmp 9)) Option.none), (.mk (Option.some 46) (.eq (.iface Bool.true) Bool.false (.tmp 45) (.const .nilIface)) Option.none)]) (.cond (.tmp 46) (.region
  [(.mk (Option.some 47) (.mv (.tmp 8)) Option.none), (.mk (Option.some 48) (.mv (.tmp 0)) Option.none), (.mk (Option.some 49) (.nilCheck (.tmp 48)) Option.none), (.mk (Option.some
  50) (.fieldAddr 0 (.tmp 49)) Option.none), (.mk (Option.some 51) (.load 1 Bool.false (.tmp 50)) Option.none), (.mk (Option.some 52) (.mv (.tmp 8)) Option.none), (.mk (Option.some
  53) (.mv (.tmp 5)) Option.none), (.mk (Option.some 54) (.buildSlice 1 1 [(.slice Option.none 0 0 0 0)] [(0, (1, (.tmp 53)))]) Option.none), (.mk (Option.some 55) (.call 159
  [(.tmp 51), (.tmp 52), (.tmp 54)]) Option.none), (.mk (Option.some 56) (.call 158 [(.tmp 47), (.tmp 55)]) Option.none), (.mk (Option.some 9) (.mv (.tmp 56)) Option.none)])
  .skip)) (.seq (.seq (.region [(.mk (Option.some 57) (.mv (.tmp 9)) Option.none), (.mk (Option.some 58) (.eq (.iface Bool.true) Bool.true (.tmp 57) (.const .nilIface))
  Option.none)]) (.cond (.tmp 58) (.seq (.region [(.mk (Option.some 59) (.mv (.tmp 9)) Option.none), (.mk (Option.some 4) (.mv (.tmp 59)) Option.none)]) .ret) .skip)) (.seq
  (.region [(.mk (Option.some 60) (.mv (.tmp 0)) Option.none), (.mk (Option.some 61) (.mv (.tmp 8)) Option.none), (.mk (Option.some 62) (.nilCheck (.tmp 60)) Option.none), (.mk
  (Option.some 63) (.fieldAddr 2 (.tmp 62)) Option.none), (.mk Option.none (.store 1 (.tmp 63) (.tmp 61)) Option.none)]) (.seq (.seq (.region [(.mk (Option.some 64) (.mv (.tmp 1))
  Option.none), (.mk (Option.some 65) (.len (.tmp 64)) Option.none), (.mk (Option.some 66) (.mv (.const (.int .i64 0))) Option.none)]) (.block 2 (.loop (.seq (.region [(.mk
  (Option.some 67) (.bin .lss (.tmp 66) (.tmp 65)) Option.none)]) (.seq (.cond (.tmp 67) .skip (.exit 2)) (.seq (.block 3 (.seq (.region [(.mk (Option.some 68) (.atSlice 1 (.tmp
  64) (.tmp 66)) Option.none), (.mk (Option.some 69) (.load 1 Bool.false (.tmp 68)) Option.none), (.mk (Option.some 11) (.mv (.tmp 69)) Option.none)]) (.draws [((.mk (Option.some
  70) (.mv (.tmp 0)) Option.none), (0, 11)), ((.mk (Option.some 71) (.mv (.tmp 0)) Option.none), (0, 8)), ((.mk (Option.some 72) (.nilCheck (.tmp 71)) Option.none), (0, 8)), ((.mk
  (Option.some 73) (.fieldAddr 4 (.tmp 72)) Option.none), (0, 8)), ((.mk (Option.some 74) (.load 1 Bool.false (.tmp 73)) Option.none), (0, 8)), ((.mk (Option.some 75) (.mv (.tmp
  11)) Option.none), (0, 6)), ((.mk (Option.some 76) (.call 85 [(.tmp 75)]) Option.none), (0, 7)), ((.mk (Option.some 77) (.buildSlice 1 1 [(.slice Option.none 0 0 0 0)] [(0, (1,
  (.tmp 76)))]) Option.none), (7, 8)), ((.mk (Option.some 78) (.append Bool.false 1 24 (.tmp 74) (.tmp 77)) Option.none), (8, 11)), ((.mk (Option.some 79) (.nilCheck (.tmp 70))
  Option.none), (9, 11)), ((.mk (Option.some 80) (.fieldAddr 4 (.tmp 79)) Option.none), (9, 11)), ((.mk Option.none (.store 1 (.tmp 80) (.tmp 78)) Option.none), (9, 12))])))
  (.region [(.mk (Option.some 81) (.bin .add (.tmp 66) (.const (.int .i64 1))) Option.none), (.mk (Option.some 66) (.mv (.tmp 81)) Option.none)]))))))) (.seq (.region [(.mk
  (Option.some 4) (.mv (.const .nilIface)) Option.none)]) .ret)))))))))) 82 [(.tmp 4)])
def a155 : AFn :=
  (.mk (.seq (.region [(.mk (Option.some 2) (.mv (.const (.int .i64 0))) Option.none)]) (.seq (.block 0 (.seq (.region [(.mk (Option.some 4) (.mv (.tmp 0)) Option.none), (.mk
  (Option.some 5) (.eq .ptr Bool.false (.tmp 4) (.const (.pointer Option.none))) Option.none), (.mk (Option.some 3) (.mv (.tmp 5)) Option.none)]) (.cond (.tmp 3) (.seq (.region
  [(.mk (Option.some 2) (.mv (.const (.int .i64 1))) Option.none)]) .ret) (.seq (.region [(.mk (Option.some 7) (.mv (.tmp 0)) Option.none), (.mk (Option.some 8) (.nilCheck (.tmp
  7)) Option.none), (.mk (Option.some 9) (.fieldAddr 2 (.tmp 8)) Option.none), (.mk (Option.some 10) (.load 1 Bool.false (.tmp 9)) Option.none), (.mk (Option.some 11) (.bin .lss
  (.tmp 10) (.const (.int .i64 0))) Option.none), (.mk (Option.some 6) (.mv (.tmp 11)) Option.none)]) (.cond (.tmp 6) (.seq (.region [(.mk (Option.some 2) (.mv (.const (.int .i64
  0))) Option.none)]) .ret) .skip))))) (.seq (.draws [((.mk (Option.some 12) (.mv (.tmp 0)) Option.none), (0, 8)), ((.mk (Option.some 13) (.nilCheck (.tmp 12)) Option.none), (0,
  8)), ((.mk (Option.some 14) (.fieldAddr 0 (.tmp 13)) Option.none), (0, 8)), ((.mk (Option.some 15) (.load 1 Bool.false (.tmp 14)) Option.none), (0, 8)), ((.mk (Option.some 16)
  (.mv (.tmp 0)) Option.none), (0, 8)), ((.mk (Option.some 17) (.nilCheck (.tmp 16)) Option.none), (0, 8)), ((.mk (Option.some 18) (.fieldAddr 2 (.tmp 17)) Option.none), (0, 8)),
  ((.mk (Option.some 19) (.load 1 Bool.false (.tmp 18)) Option.none), (0, 8)), ((.mk (Option.some 20) (.call 161 [(.tmp 15), (.tmp 19)]) Option.none), (0, 10)), ((.mk (Option.some
  2) (.mv (.tmp 20)) Option.none), (9, 10))]) .ret))) 21 [(.tmp 2)])
def a156 : AFn :=
  (.mk (.seq (.region [(.mk (Option.some 2) (.mv (.const (.slice Option.none 0 0))) Option.none)]) (.seq (.region [(.mk (Option.some 4) (.mv (.tmp 0)) Option.none), (.mk (Option.some
  5) (.call 259 [(.tmp 4)]) Option.none), (.mk (Option.some 3) (.mv (.tmp 5)) Option.none)]) (.seq (.region [(.mk (Option.some 6) (.mv (.tmp 3)) Option.none), (.mk (Option.some 7)
  (.call 260 [(.tmp 6)]) Option.none)]) (.seq (.region [(.mk (Option.some 8) (.mv (.tmp 3)) Option.none), (.mk (Option.some 2) (.mv (.tmp 8)) Option.none)]) .ret)))) 9 [(.tmp 2)])
def a157 : AFn :=
  (.mk (.seq (.region [(.mk (Option.some 1) (.box (.tmp 0)) Option.none), (.mk (Option.some 2) (.mv (.const .nilFunc)) Option.none)]) (.seq (.region [(.mk (Option.some 3) (.mkFunc
  (.func 261) [] [(.tmp 1)]) Option.none), (.mk (Option.some 2) (.mv (.tmp 3)) Option.none)]) .ret)) 4 [(.tmp 2)])
def a158 : AFn :=
  (.mk (.seq (.region [(.mk (Option.some 4) (.mv (.const .nilIface)) Option.none)]) (.seq (.region [(.mk (Option.some 5) (.mv (.tmp 0)) Option.none), (.mk (Option.some 6) (.mv (.tmp
  1)) Option.none), (.mk (Option.some 7) (.call 90 [(.tmp 6)]) Option.none), (.mk (Option.some 8) (.call 82 [(.tmp 5), (.tmp 7)]) Option.none), (.mk (Option.some 4) (.mv (.tmp 8))
  Option.none)]) .ret)) 9 [(.tmp 4)])
def a159 : AFn :=
  (.mk (.seq (.region [(.mk (Option.some 6) (.mv (.const (.int .i64 0))) Option.none)]) (.seq (.region [(.mk (Option.some 12) (.mv (.tmp 0)) Option.none), (.mk (Option.some 13) (.mv
  (.tmp 1)) Option.none), (.mk (Option.some 14) (.call 262 [(.tmp 12), (.tmp 13), (.const (.bool Bool.true))]) Option.none), (.mk (Option.some 7) (.mv (.tmp 14)) Option.none)])
  (.seq (.seq (.region [(.mk (Option.some 15) (.mv (.tmp 7)) Option.none), (.mk (Option.some 16) (.eq (.iface Bool.true) Bool.false (.tmp 15) (.const .nilIface)) Option.none)])
  (.cond (.tmp 16) (.region [(.mk (Option.some 17) (.mv (.tmp 0)) Option.none), (.mk (Option.some 18) (.mv (.tmp 1)) Option.none), (.mk (Option.some 19) (.mv (.tmp 2))
  Option.none), (.mk (Option.some 20) (.call 263 [(.tmp 17), (.tmp 18), (.tmp 19)]) Option.none), (.mk (Option.some 7) (.mv (.tmp 20)) Option.none)]) .skip)) (.seq (.seq (.region
  [(.mk (Option.some 21) (.mv (.tmp 7)) Option.none), (.mk (Option.some 22) (.eq (.iface Bool.true) Bool.true (.tmp 21) (.const .nilIface)) Option.none)]) (.cond (.tmp 22) (.seq
  (.region [(.mk (Option.some 23) (.mv (.tmp 7)) Option.none), (.mk (Option.some 24) (.call 67 [(.tmp 23)]) Option.none), (.mk (Option.some 6) (.mv (.tmp 24)) Option.none)]) .ret)
  .skip)) (.seq (.region [(.mk (Option.some 25) (.mv (.tmp 0)) Option.none), (.mk (Option.some 26) (.nilCheck (.tmp 25)) Option.none), (.mk (Option.some 27) (.fieldAddr 1 (.tmp
  26)) Option.none), (.mk (Option.some 28) (.load 1 Bool.false (.tmp 27)) Option.none), (.mk (Option.some 29) (.mv (.tmp 1)) Option.none), (.mk (Option.some 30) (.lookup (.int
  .i64) (.agg [(.slice Option.none 0 0 0 0), (.int .i64 0)]) Bool.false (.tmp 28) (.tmp 29)) Option.none), (.mk (Option.some 8) (.alloc [(.slice Option.none 0 0 0 0), (.int .i64
  0)]) Option.none), (.mk Option.none (.store 2 (.tmp 8) (.tmp 30)) Option.none)]) (.seq (.region [(.mk (Option.some 31) (.fieldAddr 0 (.tmp 8)) Option.none), (.mk (Option.some 32)
  (.load 1 Bool.false (.tmp 31)) Option.none), (.mk (Option.some 33) (.call 85 [(.tmp 32)]) Option.none), (.mk (Option.some 9) (.mv (.tmp 33)) Option.none)]) (.seq (.seq (.region
  [(.mk (Option.some 34) (.mv (.tmp 2)) Option.none), (.mk (Option.some 35) (.len (.tmp 34)) Option.none), (.mk (Option.some 36) (.mv (.const (.int .i64 0))) Option.none)]) (.block
  0 (.loop (.seq (.region [(.mk (Option.some 37) (.bin .lss (.tmp 36) (.tmp 35)) Option.none)]) (.seq (.cond (.tmp 37) .skip (.exit 0)) (.seq (.block 1 (.seq (.region [(.mk
  (Option.some 38) (.atSlice 1 (.tmp 34) (.tmp 36)) Option.none), (.mk (Option.some 39) (.load 1 Bool.false (.tmp 38)) Option.none), (.mk (Option.some 11) (.mv (.tmp 39))
  Option.none)]) (.region [(.mk (Option.some 40) (.mv (.tmp 9)) Option.none), (.mk (Option.some 41) (.mv (.tmp 11)) Option.none), (.mk (Option.some 42) (.append Bool.false 1 1
  (.tmp 40) (.tmp 41)) Option.none), (.mk (Option.some 9) (.mv (.tmp 42)) Option.none)]))) (.region [(.mk (Option.some 43) (.bin .add (.tmp 36) (.const (.int .i64 1)))
  Option.none), (.mk (Option.some 36) (.mv (.tmp 43)) Option.none)]))))))) (.seq (.region [(.mk (Option.some 44) (.mv (.tmp 0)) Option.none), (.mk (Option.some 45) (.mv (.tmp 1))
  Option.none), (.mk (Option.some 46) (.mv (.tmp 9)) Option.none), (.mk (Option.some 47) (.fieldAddr 1 (.tmp 8)) Option.none), (.mk (Option.some 48) (.load 1 Bool.false (.tmp 47))
  Option.none), (.mk (Option.some 49) (.build [(.slice Option.none 0 0 0 0), (.int .i64 0)] [(0, (1, (.tmp 46))), (1, (1, (.tmp 48)))]) Option.none), (.mk (Option.some 50) (.call
  264 [(.tmp 44), (.tmp 45), (.tmp 49)]) Option.none), (.mk (Option.some 6) (.mv (.tmp 50)) Option.none)]) .ret)))))))) 51 [(.tmp 6)])
def a160 : AFn :=
  (.mk (.seq (.region [(.mk (Option.some 2) (.mv (.const (.slice Option.none 0 0))) Option.none)]) (.seq (.region [(.mk (Option.some 3) (.mv (.const (.int .i64 0))) Option.none)])
  (.seq (.seq (.region [(.mk (Option.some 10) (.mv (.tmp 0)) Option.none), (.mk (Option.some 11) (.len (.tmp 10)) Option.none), (.mk (Option.some 12) (.mv (.const (.int .i64 0)))
  Option.none)]) (.block 0 (.loop (.seq (.region [(.mk (Option.some 13) (.bin .lss (.tmp 12) (.tmp 11)) Option.none)]) (.seq (.cond (.tmp 13) .skip (.exit 0)) (.seq (.block 1 (.seq
  (.region [(.mk (Option.some 14) (.atSlice 1 (.tmp 10) (.tmp 12)) Option.none), (.mk (Option.some 15) (.load 1 Bool.false (.tmp 14)) Option.none), (.mk (Option.some 5) (.mv (.tmp
  15)) Option.none)]) (.seq (.seq (.region [(.mk (Option.some 16) (.mv (.tmp 5)) Option.none), (.mk (Option.some 17) (.len (.tmp 16)) Option.none), (.mk (Option.some 18) (.mv (.tmp
  3)) Option.none), (.mk (Option.some 19) (.bin .sub (.const (.int .i64 16384)) (.tmp 18)) Option.none), (.mk (Option.some 20) (.bin .gtr (.tmp 17) (.tmp 19)) Option.none)]) (.cond
  (.tmp 20) (.seq (.region [(.mk (Option.some 2) (.mv (.const (.slice Option.none 0 0))) Option.none)]) .ret) .skip)) (.region [(.mk (Option.some 21) (.mv (.tmp 3)) Option.none),
  (.mk (Option.some 22) (.mv (.tmp 5)) Option.none), (.mk (Option.some 23) (.len (.tmp 22)) Option.none), (.mk (Option.some 24) (.bin .add (.tmp 21) (.tmp 23)) Option.none), (.mk
  (Option.some 3) (.mv (.tmp 24)) Option.none)])))) (.region [(.mk (Option.some 25) (.bin .add (.tmp 12) (.const (.int .i64 1))) Option.none), (.mk (Option.some 12) (.mv (.tmp 25))
  Option.none)]))))))) (.seq (.region [(.mk (Option.some 26) (.mv (.tmp 3)) Option.none), (.mk (Option.some 27) (.bin .add (.tmp 26) (.const (.int .i64 3))) Option.none), (.mk
  (Option.some 28) (.bin .add (.tmp 27) (.const (.int .i64 4))) Option.none), (.mk (Option.some 29) (.makeSlice 1 1 [(.int .u8 0)] (.const (.int .i64 0)) (.tmp 28)) Option.none),
  (.mk (Option.some 30) (.mv (.tmp 3)) Option.none), (.mk (Option.some 31) (.bin .shr (.tmp 30) (.const (.int .u64 8))) Option.none), (.mk (Option.some 32) (.conv .u8 (.tmp 31))
  Option.none), (.mk (Option.some 33) (.mv (.tmp 3)) Option.none), (.mk (Option.some 34) (.conv .u8 (.tmp 33)) Option.none), (.mk (Option.some 35) (.buildSlice 3 1 [(.int .u8 0),
  (.int .u8 0), (.int .u8 0)] [(0, (1, (.const (.int .u8 167)))), (1, (1, (.tmp 32))), (2, (1, (.tmp 34)))]) Option.none), (.mk (Option.some 36) (.append Bool.false 1 1 (.tmp 29)
  (.tmp 35)) Option.none), (.mk (Option.some 6) (.mv (.tmp 36)) Option.none)]) (.seq (.seq (.region [(.mk (Option.some 37) (.mv (.tmp 0)) Option.none), (.mk (Option.some 38) (.len
  (.tmp 37)) Option.none), (.mk (Option.some 39) (.mv (.const (.int .i64 0))) Option.none)]) (.block 2 (.loop (.seq (.region [(.mk (Option.some 40) (.bin .lss (.tmp 39) (.tmp 38))
  Option.none)]) (.seq (.cond (.tmp 40) .skip (.exit 2)) (.seq (.block 3 (.seq (.region [(.mk (Option.some 41) (.atSlice 1 (.tmp 37) (.tmp 39)) Option.none), (.mk (Option.some 42)
  (.load 1 Bool.false (.tmp 41)) Option.none), (.mk (Option.some 8) (.mv (.tmp 42)) Option.none)]) (.region [(.mk (Option.some 43) (.mv (.tmp 6)) Option.none), (.mk (Option.some
  44) (.mv (.tmp 8)) Option.none), (.mk (Option.some 45) (.append Bool.false 1 1 (.tmp 43) (.tmp 44)) Option.none), (.mk (Option.some 6) (.mv (.tmp 45)) Option.none)]))) (.region
  [(.mk (Option.some 46) (.bin .add (.tmp 39) (.const (.int .i64 1))) Option.none), (.mk (Option.some 39) (.mv (.tmp 46)) Option.none)]))))))) (.seq (.region [(.mk (Option.some 47)
  (.mv (.tmp 6)) Option.none), (.mk (Option.some 48) (.buildSlice 1 1 [(.slice Option.none 0 0 0 0)] [(0, (1, (.tmp 47)))]) Option.none), (.mk (Option.some 49) (.call 265 [(.tmp
  48)]) Option.none), (.mk (Option.some 9) (.mv (.tmp 49)) Option.none)]) (.seq (.region [(.mk (Option.some 50) (.mv (.tmp 6)) Option.none), (.mk (Option.some 51) (.mv (.tmp 9))
  Option.none), (.mk (Option.some 52) (.bin .shr (.tmp 51) (.const (.int .u64 24))) Option.none), (.mk (Option.some 53) (.conv .u8 (.tmp 52)) Option.none), (.mk (Option.some 54)
  (.mv (.tmp 9)) Option.none), (.mk (Option.some 55) (.bin .shr (.tmp 54) (.const (.int .u64 16))) Option.none), (.mk (Option.some 56) (.conv .u8 (.tmp 55)) Option.none), (.mk
  (Option.some 57) (.mv (.tmp 9)) Option.none), (.mk (Option.some 58) (.bin .shr (.tmp 57) (.const (.int .u64 8))) Option.none), (.mk (Option.some 59) (.conv .u8 (.tmp 58))
  Option.none), (.mk (Option.some 60) (.mv (.tmp 9)) Option.none), (.mk (Option.some 61) (.conv .u8 (.tmp 60)) Option.none), (.mk (Option.some 62) (.buildSlice 4 1 [(.int .u8 0),
  (.int .u8 0), (.int .u8 0), (.int .u8 0)] [(0, (1, (.tmp 53))), (1, (1, (.tmp 56))), (2, (1, (.tmp 59))), (3, (1, (.tmp 61)))]) Option.none), (.mk (Option.some 63) (.append
  Bool.false 1 1 (.tmp 50) (.tmp 62)) Option.none), (.mk (Option.some 2) (.mv (.tmp 63)) Option.none)]) .ret))))))) 64 [(.tmp 2)])
def a161 : AFn :=
  (.mk (.seq (.region [(.mk (Option.some 4) (.mv (.const (.int .i64 0))) Option.none)]) (.seq (.seq (.region [(.mk (Option.some 7) (.mv (.tmp 0)) Option.none), (.mk (Option.some 8)
  (.mv (.tmp 1)) Option.none), (.mk (Option.some 9) (.call 262 [(.tmp 7), (.tmp 8), (.const (.bool Bool.false))]) Option.none), (.mk (Option.some 5) (.mv (.tmp 9)) Option.none)])
  (.seq (.region [(.mk (Option.some 10) (.mv (.tmp 5)) Option.none), (.mk (Option.some 11) (.eq (.iface Bool.true) Bool.true (.tmp 10) (.const .nilIface)) Option.none)]) (.cond
  (.tmp 11) (.seq (.region [(.mk (Option.some 12) (.mv (.tmp 5)) Option.none), (.mk (Option.some 13) (.call 67 [(.tmp 12)]) Option.none), (.mk (Option.some 4) (.mv (.tmp 13))
  Option.none)]) .ret) .skip))) (.seq (.region [(.mk (Option.some 14) (.mv (.tmp 0)) Option.none), (.mk (Option.some 15) (.nilCheck (.tmp 14)) Option.none), (.mk (Option.some 16)
  (.fieldAddr 1 (.tmp 15)) Option.none), (.mk (Option.some 17) (.load 1 Bool.false (.tmp 16)) Option.none), (.mk (Option.some 18) (.mv (.tmp 1)) Option.none), (.mk (Option.some 19)
  (.lookup (.int .i64) (.agg [(.slice Option.none 0 0 0 0), (.int .i64 0)]) Bool.false (.tmp 17) (.tmp 18)) Option.none), (.mk (Option.some 20) (.field 0 1 Bool.false (.tmp 19))
  Option.none), (.mk (Option.some 6) (.mv (.tmp 20)) Option.none)]) (.seq (.region [(.mk (Option.some 21) (.mv (.tmp 0)) Option.none), (.mk (Option.some 22) (.mv (.tmp 1))
  Option.none), (.mk (Option.some 23) (.mv (.tmp 6)) Option.none), (.mk (Option.some 24) (.mv (.tmp 6)) Option.none), (.mk (Option.some 25) (.len (.tmp 24)) Option.none), (.mk
  (Option.some 26) (.build [(.slice Option.none 0 0 0 0), (.int .i64 0)] [(0, (1, (.tmp 23))), (1, (1, (.tmp 25)))]) Option.none), (.mk (Option.some 27) (.call 264 [(.tmp 21),
  (.tmp 22), (.tmp 26)]) Option.none), (.mk (Option.some 4) (.mv (.tmp 27)) Option.none)]) .ret)))) 28 [(.tmp 4)])
def a164 : AFn :=
  (.mk (.seq (.region [(.mk (Option.some 2) (.mv (.const .nilIface)) Option.none)]) (.seq (.region [(.mk (Option.some 8) (.mv (.tmp 0)) Option.none), (.mk (Option.some 9) (.nilCheck
  (.tmp 8)) Option.none), (.mk (Option.some 10) (.fieldAddr 0 (.tmp 9)) Option.none), (.mk (Option.some 11) (.load 1 Bool.false (.tmp 10)) Option.none), (.mk (Option.some 12)
  (.call 84 [(.tmp 11)]) Option.none), (.mk (Option.some 3) (.mv (.tmp 12)) Option.none)]) (.seq (.seq (.region [(.mk (Option.some 13) (.mv (.tmp 3)) Option.none), (.mk
  (Option.some 14) (.len (.tmp 13)) Option.none), (.mk (Option.some 15) (.bin .sub (.tmp 14) (.const (.int .i64 1))) Option.none), (.mk (Option.some 4) (.mv (.tmp 15))
  Option.none)]) (.block 0 (.loop (.seq (.seq (.region [(.mk (Option.some 16) (.mv (.tmp 4)) Option.none), (.mk (Option.some 17) (.bin .geq (.tmp 16) (.const (.int .i64 0)))
  Option.none)]) (.cond (.tmp 17) .skip (.exit 0))) (.seq (.block 1 (.seq (.region [(.mk (Option.some 21) (.mv (.tmp 0)) Option.none), (.mk (Option.some 22) (.mv (.tmp 3))
  Option.none), (.mk (Option.some 23) (.mv (.tmp 4)) Option.none), (.mk (Option.some 24) (.atSlice 1 (.tmp 22) (.tmp 23)) Option.none), (.mk (Option.some 25) (.load 1 Bool.false
  (.tmp 24)) Option.none), (.mk (Option.some 26) (.call 267 [(.tmp 21), (.tmp 25)]) Option.none), (.mk (Option.some 20) (.mv (.tmp 26)) Option.none), (.mk (Option.some 27)
  (.extract (.tmp 20) 0) Option.none), (.mk (Option.some 28) (.extract (.tmp 20) 1) Option.none), (.mk (Option.some 5) (.mv (.tmp 27)) Option.none), (.mk (Option.some 6) (.mv (.tmp
  28)) Option.none)]) (.seq (.seq (.region [(.mk (Option.some 29) (.mv (.tmp 5)) Option.none), (.mk (Option.some 30) (.len (.tmp 29)) Option.none), (.mk (Option.some 31) (.bin .gtr
  (.tmp 30) (.const (.int .i64 0))) Option.none)]) (.cond (.tmp 31) (.seq (.region [(.mk (Option.some 32) (.mv (.tmp 0)) Option.none), (.mk (Option.some 33) (.mv (.tmp 3))
  Option.none), (.mk (Option.some 34) (.mv (.tmp 4)) Option.none), (.mk (Option.some 35) (.atSlice 1 (.tmp 33) (.tmp 34)) Option.none), (.mk (Option.some 36) (.load 1 Bool.false
  (.tmp 35)) Option.none), (.mk (Option.some 37) (.nilCheck (.tmp 32)) Option.none), (.mk (Option.some 38) (.fieldAddr 2 (.tmp 37)) Option.none), (.mk Option.none (.store 1 (.tmp
  38) (.tmp 36)) Option.none)]) (.seq (.seq (.draws [((.mk (Option.some 39) (.mv (.tmp 6)) Option.none), (0, 11)), ((.mk (Option.some 40) (.mv (.tmp 0)) Option.none), (0, 9)),
  ((.mk (Option.some 41) (.nilCheck (.tmp 40)) Option.none), (0, 9)), ((.mk (Option.some 42) (.fieldAddr 0 (.tmp 41)) Option.none), (0, 9)), ((.mk (Option.some 43) (.load 1
  Bool.false (.tmp 42)) Option.none), (0, 9)), ((.mk (Option.some 44) (.mv (.tmp 3)) Option.none), (0, 9)), ((.mk (Option.some 45) (.mv (.tmp 4)) Option.none), (0, 9)), ((.mk
  (Option.some 46) (.atSlice 1 (.tmp 44) (.tmp 45)) Option.none), (0, 9)), ((.mk (Option.some 47) (.load 1 Bool.false (.tmp 46)) Option.none), (0, 9)), ((.mk (Option.some 48)
  (.call 268 [(.tmp 43), (.tmp 47)]) Option.none), (0, 11)), ((.mk (Option.some 49) (.bin .lss (.tmp 39) (.tmp 48)) Option.none), (10, 11))]) (.cond (.tmp 49) (.seq (.draws [((.mk
  (Option.some 50) (.mv (.tmp 3)) Option.none), (0, 14)), ((.mk (Option.some 51) (.mv (.tmp 4)) Option.none), (0, 14)), ((.mk (Option.some 52) (.atSlice 1 (.tmp 50) (.tmp 51))
  Option.none), (0, 14)), ((.mk (Option.some 53) (.load 1 Bool.false (.tmp 52)) Option.none), (0, 14)), ((.mk (Option.some 54) (.mv (.tmp 0)) Option.none), (0, 13)), ((.mk
  (Option.some 55) (.nilCheck (.tmp 54)) Option.none), (0, 13)), ((.mk (Option.some 56) (.fieldAddr 0 (.tmp 55)) Option.none), (0, 13)), ((.mk (Option.some 57) (.load 1 Bool.false
  (.tmp 56)) Option.none), (0, 13)), ((.mk (Option.some 58) (.mv (.tmp 3)) Option.none), (0, 13)), ((.mk (Option.some 59) (.mv (.tmp 4)) Option.none), (0, 13)), ((.mk (Option.some
  60) (.atSlice 1 (.tmp 58) (.tmp 59)) Option.none), (0, 13)), ((.mk (Option.some 61) (.load 1 Bool.false (.tmp 60)) Option.none), (0, 13)), ((.mk (Option.some 62) (.mv (.tmp 6))
  Option.none), (0, 13)), ((.mk (Option.some 63) (.call 269 [(.tmp 57), (.tmp 61), (.tmp 62)]) Option.none), (0, 14)), ((.mk (Option.some 64) (.call 158 [(.tmp 53), (.tmp 63)])
  Option.none), (14, 16)), ((.mk (Option.some 2) (.mv (.tmp 64)) Option.none), (15, 16))]) .ret) .skip)) (.seq (.region [(.mk (Option.some 2) (.mv (.const .nilIface))
  Option.none)]) .ret))) .skip)) (.seq (.draws [((.mk (Option.some 65) (.mv (.tmp 3)) Option.none), (0, 13)), ((.mk (Option.some 66) (.mv (.tmp 4)) Option.none), (0, 13)), ((.mk
  (Option.some 67) (.atSlice 1 (.tmp 65) (.tmp 66)) Option.none), (0, 13)), ((.mk (Option.some 68) (.load 1 Bool.false (.tmp 67)) Option.none), (0, 13)), ((.mk (Option.some 69)
  (.mv (.tmp 0)) Option.none), (0, 12)), ((.mk (Option.some 70) (.nilCheck (.tmp 69)) Option.none), (0, 12)), ((.mk (Option.some 71) (.fieldAddr 0 (.tmp 70)) Option.none), (0,
  12)), ((.mk (Option.some 72) (.load 1 Bool.false (.tmp 71)) Option.none), (0, 12)), ((.mk (Option.some 73) (.mv (.tmp 3)) Option.none), (0, 12)), ((.mk (Option.some 74) (.mv
  (.tmp 4)) Option.none), (0, 12)), ((.mk (Option.some 75) (.atSlice 1 (.tmp 73) (.tmp 74)) Option.none), (0, 12)), ((.mk (Option.some 76) (.load 1 Bool.false (.tmp 75))
  Option.none), (0, 12)), ((.mk (Option.some 77) (.call 162 [(.tmp 72), (.tmp 76)]) Option.none), (0, 13)), ((.mk (Option.some 78) (.call 158 [(.tmp 68), (.tmp 77)]) Option.none),
  (13, 15)), ((.mk (Option.some 7) (.mv (.tmp 78)) Option.none), (14, 15))]) (.seq (.region [(.mk (Option.some 79) (.mv (.tmp 7)) Option.none), (.mk (Option.some 80) (.eq (.iface
  Bool.true) Bool.true (.tmp 79) (.const .nilIface)) Option.none)]) (.cond (.tmp 80) (.seq (.region [(.mk (Option.some 81) (.mv (.tmp 7)) Option.none), (.mk (Option.some 2) (.mv
  (.tmp 81)) Option.none)]) .ret) .skip)))))) (.region [(.mk (Option.some 18) (.mv (.tmp 4)) Option.none), (.mk (Option.some 19) (.bin .sub (.tmp 18) (.const (.int .i64 1)))
  Option.none), (.mk (Option.some 4) (.mv (.tmp 19)) Option.none)])))))) (.seq (.region [(.mk (Option.some 2) (.mv (.const .nilIface)) Option.none)]) .ret)))) 82 [(.tmp 2)])
def a165 : AFn :=
  (.mk (.seq (.region [(.mk (Option.some 2) (.mv (.const .nilIface)) Option.none)]) (.seq (.region [(.mk (Option.some 16) (.mv (.tmp 0)) Option.none), (.mk (Option.some 17)
  (.nilCheck (.tmp 16)) Option.none), (.mk (Option.some 18) (.fieldAddr 0 (.tmp 17)) Option.none), (.mk (Option.some 19) (.load 1 Bool.false (.tmp 18)) Option.none), (.mk
  (Option.some 20) (.call 84 [(.tmp 19)]) Option.none), (.mk (Option.some 3) (.mv (.tmp 20)) Option.none)]) (.seq (.region [(.mk (Option.some 4) (.mv (.const (.int .i64 0)))
  Option.none)]) (.seq (.seq (.region [(.mk (Option.some 21) (.mv (.tmp 3)) Option.none), (.mk (Option.some 22) (.len (.tmp 21)) Option.none), (.mk (Option.some 23) (.mv (.const
  (.int .i64 0))) Option.none)]) (.block 0 (.loop (.seq (.region [(.mk (Option.some 24) (.bin .lss (.tmp 23) (.tmp 22)) Option.none)]) (.seq (.cond (.tmp 24) .skip (.exit 0)) (.seq
  (.block 1 (.seq (.region [(.mk (Option.some 25) (.mv (.tmp 23)) Option.none), (.mk (Option.some 26) (.atSlice 1 (.tmp 21) (.tmp 23)) Option.none), (.mk (Option.some 27) (.load 1
  Bool.false (.tmp 26)) Option.none), (.mk (Option.some 5) (.mv (.tmp 25)) Option.none), (.mk (Option.some 6) (.mv (.tmp 27)) Option.none)]) (.seq (.region [(.mk (Option.some 29)
  (.mv (.tmp 0)) Option.none), (.mk (Option.some 30) (.mv (.tmp 6)) Option.none), (.mk (Option.some 31) (.call 267 [(.tmp 29), (.tmp 30)]) Option.none), (.mk (Option.some 28) (.mv
  (.tmp 31)) Option.none), (.mk (Option.some 32) (.extract (.tmp 28) 0) Option.none), (.mk (Option.some 33) (.extract (.tmp 28) 1) Option.none), (.mk (Option.some 7) (.mv (.tmp
  32)) Option.none), (.mk (Option.some 8) (.mv (.tmp 33)) Option.none)]) (.seq (.region [(.mk (Option.some 34) (.mv (.tmp 7)) Option.none), (.mk (Option.some 35) (.call 270 [(.tmp
  34)]) Option.none)]) (.cond (.tmp 35) (.region [(.mk (Option.some 36) (.mv (.tmp 5)) Option.none), (.mk (Option.some 4) (.mv (.tmp 36)) Option.none)]) .skip))))) (.region [(.mk
  (Option.some 37) (.bin .add (.tmp 23) (.const (.int .i64 1))) Option.none), (.mk (Option.some 23) (.mv (.tmp 37)) Option.none)]))))))) (.seq (.seq (.region [(.mk (Option.some 38)
  (.mv (.tmp 3)) Option.none), (.mk (Option.some 39) (.len (.tmp 38)) Option.none), (.mk (Option.some 40) (.mv (.const (.int .i64 0))) Option.none)]) (.block 2 (.loop (.seq
  (.region [(.mk (Option.some 41) (.bin .lss (.tmp 40) (.tmp 39)) Option.none)]) (.seq (.cond (.tmp 41) .skip (.exit 2)) (.seq (.block 3 (.seq (.region [(.mk (Option.some 42) (.mv
  (.tmp 40)) Option.none), (.mk (Option.some 43) (.atSlice 1 (.tmp 38) (.tmp 40)) Option.none), (.mk (Option.some 44) (.load 1 Bool.false (.tmp 43)) Option.none), (.mk (Option.some
  9) (.mv (.tmp 42)) Option.none), (.mk (Option.some 10) (.mv (.tmp 44)) Option.none)]) (.seq (.seq (.region [(.mk (Option.some 45) (.mv (.tmp 9)) Option.none), (.mk (Option.some
  46) (.mv (.tmp 4)) Option.none), (.mk (Option.some 47) (.bin .lss (.tmp 45) (.tmp 46)) Option.none)]) (.cond (.tmp 47) (.seq (.seq (.region [(.mk (Option.some 48) (.mv (.tmp 10))
  Option.none), (.mk (Option.some 49) (.mv (.tmp 0)) Option.none), (.mk (Option.some 50) (.nilCheck (.tmp 49)) Option.none), (.mk (Option.some 51) (.fieldAddr 0 (.tmp 50))
  Option.none), (.mk (Option.some 52) (.load 1 Bool.false (.tmp 51)) Option.none), (.mk (Option.some 53) (.mv (.tmp 10)) Option.none), (.mk (Option.some 54) (.call 162 [(.tmp 52),
  (.tmp 53)]) Option.none), (.mk (Option.some 55) (.call 158 [(.tmp 48), (.tmp 54)]) Option.none), (.mk (Option.some 11) (.mv (.tmp 55)) Option.none)]) (.seq (.region [(.mk
  (Option.some 56) (.mv (.tmp 11)) Option.none), (.mk (Option.some 57) (.eq (.iface Bool.true) Bool.true (.tmp 56) (.const .nilIface)) Option.none)]) (.cond (.tmp 57) (.seq
  (.region [(.mk (Option.some 58) (.mv (.tmp 11)) Option.none), (.mk (Option.some 2) (.mv (.tmp 58)) Option.none)]) .ret) .skip))) (.exit 3)) .skip)) (.seq (.region [(.mk
  (Option.some 60) (.mv (.tmp 0)) Option.none), (.mk (Option.some 61) (.mv (.tmp 10)) Option.none), (.mk (Option.some 62) (.call 267 [(.tmp 60), (.tmp 61)]) Option.none), (.mk
  (Option.some 59) (.mv (.tmp 62)) Option.none), (.mk (Option.some 63) (.extract (.tmp 59) 0) Option.none), (.mk (Option.some 64) (.extract (.tmp 59) 1) Option.none), (.mk
  (Option.some 12) (.mv (.tmp 63)) Option.none), (.mk (Option.some 13) (.mv (.tmp 64)) Option.none)]) (.seq (.seq (.region [(.mk (Option.some 65) (.mv (.tmp 9)) Option.none), (.mk
  (Option.some 66) (.mv (.tmp 4)) Option.none), (.mk (Option.some 67) (.bin .eql (.tmp 65) (.tmp 66)) Option.none), (.mk (Option.some 68) (.mv (.tmp 67)) Option.none), (.mk
  (Option.some 69) (.mv (.tmp 12)) (Option.some (68, Bool.true))), (.mk (Option.some 70) (.call 270 [(.tmp 69)]) (Option.some (68, Bool.true))), (.mk (Option.some 71) (.pick (.tmp
  68) (.tmp 70) (.const (.bool Bool.false))) Option.none)]) (.cond (.tmp 71) (.region [(.mk (Option.some 72) (.mv (.tmp 0)) Option.none), (.mk (Option.some 73) (.mv (.tmp 12))
  Option.none), (.mk (Option.some 74) (.atSlice 1 (.tmp 73) (.const (.int .i64 0))) Option.none), (.mk (Option.some 75) (.load 1 Bool.false (.tmp 74)) Option.none), (.mk
  (Option.some 76) (.cutSlice 1 (.tmp 75) (Option.some (.const (.int .i64 1))) Option.none Option.none) Option.none), (.mk (Option.some 77) (.nilCheck (.tmp 72)) Option.none), (.mk
  (Option.some 78) (.fieldAddr 3 (.tmp 77)) Option.none), (.mk Option.none (.store 1 (.tmp 78) (.tmp 76)) Option.none)]) .skip)) (.seq (.region [(.mk (Option.some 79) (.mv (.tmp
  12)) Option.none), (.mk (Option.some 80) (.len (.tmp 79)) Option.none), (.mk (Option.some 81) (.mv (.const (.int .i64 0))) Option.none)]) (.block 4 (.loop (.seq (.region [(.mk
  (Option.some 82) (.bin .lss (.tmp 81) (.tmp 80)) Option.none)]) (.seq (.cond (.tmp 82) .skip (.exit 4)) (.seq (.block 5 (.seq (.region [(.mk (Option.some 83) (.atSlice 1 (.tmp
  79) (.tmp 81)) Option.none), (.mk (Option.some 84) (.load 1 Bool.false (.tmp 83)) Option.none), (.mk (Option.some 15) (.mv (.tmp 84)) Option.none)]) (.seq (.region [(.mk
  (Option.some 85) (.mv (.tmp 15)) Option.none), (.mk (Option.some 86) (.len (.tmp 85)) Option.none), (.mk (Option.some 87) (.bin .gtr (.tmp 86) (.const (.int .i64 0)))
  Option.none), (.mk (Option.some 88) (.mv (.tmp 87)) Option.none), (.mk (Option.some 89) (.mv (.tmp 15)) (Option.some (88, Bool.true))), (.mk (Option.some 90) (.atSlice 1 (.tmp
  89) (.const (.int .i64 0))) (Option.some (88, Bool.true))), (.mk (Option.some 91) (.load 1 Bool.false (.tmp 90)) (Option.some (88, Bool.true))), (.mk (Option.some 92) (.bin .eql
  (.tmp 91) (.const (.int .u8 0))) (Option.some (88, Bool.true))), (.mk (Option.some 93) (.pick (.tmp 88) (.tmp 92) (.const (.bool Bool.false))) Option.none)]) (.cond (.tmp 93)
  (.draws [((.mk (Option.some 94) (.mv (.tmp 0)) Option.none), (0, 11)), ((.mk (Option.some 95) (.mv (.tmp 0)) Option.none), (0, 8)), ((.mk (Option.some 96) (.nilCheck (.tmp 95))
  Option.none), (0, 8)), ((.mk (Option.some 97) (.fieldAddr 4 (.tmp 96)) Option.none), (0, 8)), ((.mk (Option.some 98) (.load 1 Bool.false (.tmp 97)) Option.none), (0, 8)), ((.mk
  (Option.some 99) (.mv (.tmp 15)) Option.none), (0, 7)), ((.mk (Option.some 100) (.cutSlice 1 (.tmp 99) (Option.some (.const (.int .i64 1))) Option.none Option.none) Option.none),
  (0, 7)), ((.mk (Option.some 101) (.buildSlice 1 1 [(.slice Option.none 0 0 0 0)] [(0, (1, (.tmp 100)))]) Option.none), (0, 8)), ((.mk (Option.some 102) (.append Bool.false 1 24
  (.tmp 98) (.tmp 101)) Option.none), (8, 11)), ((.mk (Option.some 103) (.nilCheck (.tmp 94)) Option.none), (9, 11)), ((.mk (Option.some 104) (.fieldAddr 4 (.tmp 103))
  Option.none), (9, 11)), ((.mk Option.none (.store 1 (.tmp 104) (.tmp 102)) Option.none), (9, 12))]) .skip)))) (.region [(.mk (Option.some 105) (.bin .add (.tmp 81) (.const (.int
  .i64 1))) Option.none), (.mk (Option.some 81) (.mv (.tmp 105)) Option.none)])))))))))))) (.region [(.mk (Option.some 106) (.bin .add (.tmp 40) (.const (.int .i64 1)))
  Option.none), (.mk (Option.some 40) (.mv (.tmp 106)) Option.none)]))))))) (.seq (.region [(.mk (Option.some 2) (.mv (.const .nilIface)) Option.none)]) .ret)))))) 107 [(.tmp 2)])
def a172 : AFn :=
  (.mk (.seq (.region [(.mk (Option.some 3) (.mv (.tmp 0)) Option.none), (.mk (Option.some 4) (.len (.tmp 3)) Option.none), (.mk (Option.some 2) (.mv (.tmp 4)) Option.none)])
  (.region [(.mk (Option.some 5) (.mv (.tmp 0)) Option.none), (.mk (Option.some 6) (.mv (.tmp 2)) Option.none), (.mk (Option.some 7) (.mv (.tmp 2)) Option.none), (.mk (Option.some
  8) (.conv .u64 (.tmp 7)) Option.none), (.mk (Option.some 9) (.call 223 [(.tmp 8)]) Option.none), (.mk (Option.some 10) (.call 278 [(.tmp 5), (.const (.int .i64 0)), (.tmp 6),
  (.tmp 9)]) Option.none)])) 11 [])
def a173 : AFn :=
  (.mk (.seq (.region [(.mk (Option.some 1) (.box (.tmp 0)) Option.none), (.mk (Option.some 2) (.mv (.const (.bool Bool.false))) Option.none)]) (.seq (.seq (.region [(.mk
  (Option.some 3) (.fieldAddr 0 (.tmp 1)) Option.none), (.mk (Option.some 4) (.load 1 Bool.false (.tmp 3)) Option.none)]) (.block 0 (.seq (.block 3 (.seq (.block 2 (.seq (.block 1
  (.seq (.seq (.seq (.seq (.region [(.mk (Option.some 6) (.bin .eql (.tmp 4) (.const (.int .i64 1))) Option.none), (.mk (Option.some 5) (.mv (.tmp 6)) Option.none)]) (.cond (.tmp
  5) .skip (.region [(.mk (Option.some 7) (.bin .eql (.tmp 4) (.const (.int .i64 3))) Option.none), (.mk (Option.some 5) (.mv (.tmp 7)) Option.none)]))) (.cond (.tmp 5) (.exit 1)
  .skip)) (.seq (.seq (.seq (.region [(.mk (Option.some 9) (.bin .eql (.tmp 4) (.const (.int .i64 2))) Option.none), (.mk (Option.some 8) (.mv (.tmp 9)) Option.none)]) (.cond (.tmp
  8) .skip (.seq (.region [(.mk (Option.some 10) (.bin .eql (.tmp 4) (.const (.int .i64 4))) Option.none), (.mk (Option.some 8) (.mv (.tmp 10)) Option.none)]) (.cond (.tmp 8) .skip
  (.region [(.mk (Option.some 11) (.bin .eql (.tmp 4) (.const (.int .i64 6))) Option.none), (.mk (Option.some 8) (.mv (.tmp 11)) Option.none)]))))) (.cond (.tmp 8) (.exit 2)
  .skip)) (.seq (.region [(.mk (Option.some 13) (.bin .eql (.tmp 4) (.const (.int .i64 5))) Option.none), (.mk (Option.some 12) (.mv (.tmp 13)) Option.none)]) (.cond (.tmp 12)
  (.exit 3) .skip)))) (.exit 0))) (.seq (.region [(.mk (Option.some 14) (.fieldAddr 2 (.tmp 1)) Option.none), (.mk (Option.some 15) (.load 1 Bool.false (.tmp 14)) Option.none),
  (.mk (Option.some 16) (.bin .neq (.tmp 15) (.const (.int .i64 0))) Option.none)]) (.cond (.tmp 16) (.seq (.region [(.mk (Option.some 2) (.mv (.const (.bool Bool.false)))
  Option.none)]) .ret) .skip)))) (.seq (.seq (.region [(.mk (Option.some 17) (.fieldAddr 3 (.tmp 1)) Option.none), (.mk (Option.some 18) (.load 1 Bool.false (.tmp 17))
  Option.none), (.mk (Option.some 19) (.bin .eql (.tmp 18) (.const (.int .i64 0))) Option.none), (.mk (Option.some 2) (.mv (.tmp 19)) Option.none)]) .ret) (.exit 0)))) (.seq (.seq
  (.region [(.mk (Option.some 2) (.mv (.const (.bool Bool.true))) Option.none)]) .ret) (.exit 0))))) (.seq (.region [(.mk (Option.some 2) (.mv (.const (.bool Bool.false)))
  Option.none)]) .ret))) 20 [(.tmp 2)])
def a174 : AFn :=
  (.mk (.seq (.region [(.mk (Option.some 2) (.mv (.const (.bool Bool.false))) Option.none)]) (.seq (.region [(.mk (Option.some 3) (.mv (.tmp 0)) Option.none), (.mk (Option.some 4)
  (.lenStr (.tmp 3)) Option.none), (.mk (Option.some 5) (.bin .leq (.tmp 4) (.const (.int .i64 16))) Option.none), (.mk (Option.some 6) (.mv (.tmp 5)) Option.none), (.mk
  (Option.some 7) (.mv (.tmp 0)) (Option.some (6, Bool.true))), (.mk (Option.some 8) (.call 279 [(.tmp 7)]) (Option.some (6, Bool.true))), (.mk (Option.some 9) (.pick (.tmp 6)
  (.tmp 8) (.const (.bool Bool.false))) Option.none), (.mk (Option.some 2) (.mv (.tmp 9)) Option.none)]) .ret)) 10 [(.tmp 2)])
def a176 : AFn :=
  (.mk (.seq (.region [(.mk (Option.some 4) (.mv (.const (.int .i64 0))) Option.none), (.mk (Option.some 5) (.mv (.const (.bool Bool.false))) Option.none)]) (.seq (.seq (.region
  [(.mk (Option.some 7) (.mv (.tmp 0)) Option.none), (.mk (Option.some 8) (.eq .ptr Bool.false (.tmp 7) (.const (.pointer Option.none))) Option.none)]) (.cond (.tmp 8) (.seq
  (.region [(.mk (Option.some 4) (.mv (.const (.int .i64 0))) Option.none), (.mk (Option.some 5) (.mv (.const (.bool Bool.false))) Option.none)]) .ret) .skip)) (.seq (.region [(.mk
  (Option.some 9) (.mv (.tmp 0)) Option.none), (.mk (Option.some 10) (.nilCheck (.tmp 9)) Option.none), (.mk (Option.some 11) (.fieldAddr 1 (.tmp 10)) Option.none), (.mk
  (Option.some 12) (.load 1 Bool.false (.tmp 11)) Option.none), (.mk (Option.some 13) (.mv (.tmp 1)) Option.none), (.mk (Option.some 14) (.lookup .str (.agg [(.str []), (.int .i64
  0), (.bool Bool.false), (.int .i64 0)]) Bool.false (.tmp 12) (.tmp 13)) Option.none), (.mk (Option.some 6) (.alloc [(.str []), (.int .i64 0), (.bool Bool.false), (.int .i64 0)])
  Option.none), (.mk Option.none (.store 4 (.tmp 6) (.tmp 14)) Option.none)]) (.seq (.draws [((.mk (Option.some 15) (.fieldAddr 0 (.tmp 6)) Option.none), (0, 8)), ((.mk
  (Option.some 16) (.fieldAddr 1 (.tmp 15)) Option.none), (0, 8)), ((.mk (Option.some 17) (.load 1 Bool.false (.tmp 16)) Option.none), (0, 8)), ((.mk (Option.some 18) (.fieldAddr 0
  (.tmp 6)) Option.none), (0, 8)), ((.mk (Option.some 19) (.fieldAddr 2 (.tmp 18)) Option.none), (0, 8)), ((.mk (Option.some 20) (.load 1 Bool.false (.tmp 19)) Option.none), (0,
  8)), ((.mk (Option.some 4) (.mv (.tmp 17)) Option.none), (0, 8)), ((.mk (Option.some 5) (.mv (.tmp 20)) Option.none), (0, 8))]) .ret)))) 21 [(.tmp 4), (.tmp 5)])
def a178 : AFn :=
  (.mk (.seq (.region [(.mk (Option.some 6) (.mv (.const (.int .i64 0))) Option.none)]) (.seq (.region [(.mk (Option.some 9) (.mv (.tmp 0)) Option.none), (.mk (Option.some 10) (.mv
  (.tmp 1)) Option.none), (.mk (Option.some 11) (.call 282 [(.tmp 9), (.tmp 10)]) Option.none), (.mk (Option.some 7) (.mv (.tmp 11)) Option.none)]) (.seq (.seq (.region [(.mk
  (Option.some 12) (.mv (.tmp 7)) Option.none), (.mk (Option.some 13) (.eq (.iface Bool.true) Bool.false (.tmp 12) (.const .nilIface)) Option.none)]) (.cond (.tmp 13) (.seq
  (.region [(.mk (Option.some 14) (.mv (.tmp 0)) Option.none), (.mk (Option.some 15) (.mv (.tmp 1)) Option.none), (.mk (Option.some 16) (.mv (.tmp 2)) Option.none), (.mk
  (Option.some 17) (.call 283 [(.tmp 14), (.tmp 15), (.tmp 16)]) Option.none), (.mk (Option.some 8) (.mv (.tmp 17)) Option.none)]) (.seq (.region [(.mk (Option.some 18) (.mv (.tmp
  8)) Option.none), (.mk (Option.some 19) (.bin .gtr (.tmp 18) (.const (.int .i64 0))) Option.none)]) (.cond (.tmp 19) (.region [(.mk (Option.some 20) (.mv (.tmp 8)) Option.none),
  (.mk (Option.some 21) (.call 90 [(.const (.int .i64 23))]) Option.none), (.mk (Option.some 22) (.call 82 [(.tmp 20), (.tmp 21)]) Option.none), (.mk (Option.some 7) (.mv (.tmp
  22)) Option.none)]) .skip))) .skip)) (.seq (.region [(.mk (Option.some 23) (.mv (.tmp 7)) Option.none), (.mk (Option.some 24) (.call 67 [(.tmp 23)]) Option.none), (.mk
  (Option.some 6) (.mv (.tmp 24)) Option.none)]) .ret)))) 25 [(.tmp 6)])
def a179 : AFn :=
  (.mk (.seq (.region [(.mk (Option.some 2) (.mv (.const (.slice Option.none 0 0))) Option.none), (.mk (Option.some 3) (.mv (.const (.slice Option.none 0 0))) Option.none)]) (.seq
  (.region [(.mk (Option.some 8) (.mv (.tmp 0)) Option.none), (.mk (Option.some 9) (.nilCheck (.tmp 8)) Option.none), (.mk (Option.some 10) (.fieldAddr 2 (.tmp 9)) Option.none),
  (.mk (Option.some 11) (.load 1 Bool.false (.tmp 10)) Option.none), (.mk (Option.some 12) (.call 284 [(.tmp 11)]) Option.none), (.mk (Option.some 13) (.call 156 [(.tmp 12)])
  Option.none), (.mk (Option.some 4) (.mv (.tmp 13)) Option.none)]) (.seq (.region [(.mk (Option.some 5) (.mv (.const (.slice Option.none 0 0))) Option.none)]) (.seq (.seq (.region
  [(.mk (Option.some 14) (.mv (.tmp 4)) Option.none), (.mk (Option.some 15) (.len (.tmp 14)) Option.none), (.mk (Option.some 16) (.mv (.const (.int .i64 0))) Option.none)]) (.block
  0 (.loop (.seq (.region [(.mk (Option.some 17) (.bin .lss (.tmp 16) (.tmp 15)) Option.none)]) (.seq (.cond (.tmp 17) .skip (.exit 0)) (.seq (.block 1 (.seq (.region [(.mk
  (Option.some 18) (.atSlice 1 (.tmp 14) (.tmp 16)) Option.none), (.mk (Option.some 19) (.load 1 Bool.false (.tmp 18)) Option.none), (.mk (Option.some 7) (.mv (.tmp 19))
  Option.none)]) (.region [(.mk (Option.some 20) (.mv (.tmp 5)) Option.none), (.mk (Option.some 21) (.mv (.tmp 0)) Option.none), (.mk (Option.some 22) (.nilCheck (.tmp 21))
  Option.none), (.mk (Option.some 23) (.fieldAddr 2 (.tmp 22)) Option.none), (.mk (Option.some 24) (.load 1 Bool.false (.tmp 23)) Option.none), (.mk (Option.some 25) (.mv (.tmp 7))
  Option.none), (.mk (Option.some 26) (.lookup .str (.agg [(.str []), (.int .i64 0), (.bool Bool.false)]) Bool.false (.tmp 24) (.tmp 25)) Option.none), (.mk (Option.some 27)
  (.buildSlice 1 3 [(.str []), (.int .i64 0), (.bool Bool.false)] [(0, (3, (.tmp 26)))]) Option.none), (.mk (Option.some 28) (.append Bool.false 3 32 (.tmp 20) (.tmp 27))
  Option.none), (.mk (Option.some 5) (.mv (.tmp 28)) Option.none)]))) (.region [(.mk (Option.some 29) (.bin .add (.tmp 16) (.const (.int .i64 1))) Option.none), (.mk (Option.some
  16) (.mv (.tmp 29)) Option.none)]))))))) (.seq (.region [(.mk (Option.some 30) (.mv (.tmp 5)) Option.none), (.mk (Option.some 31) (.mv (.tmp 4)) Option.none), (.mk (Option.some
  2) (.mv (.tmp 30)) Option.none), (.mk (Option.some 3) (.mv (.tmp 31)) Option.none)]) .ret))))) 32 [(.tmp 2), (.tmp 3)])
def a180 : AFn :=
  (.mk (.seq (.region [(.mk (Option.some 4) (.mv (.const (.int .i64 0))) Option.none), (.mk (Option.some 5) (.mv (.const (.int .i64 0))) Option.none)]) (.seq (.block 0 (.seq (.region
  [(.mk (Option.some 8) (.mv (.tmp 0)) Option.none), (.mk (Option.some 9) (.eq .ptr Bool.false (.tmp 8) (.const (.pointer Option.none))) Option.none), (.mk (Option.some 7) (.mv
  (.tmp 9)) Option.none)]) (.cond (.tmp 7) (.seq (.region [(.mk (Option.some 4) (.mv (.const (.int .i64 0))) Option.none), (.mk (Option.some 5) (.mv (.const (.int .i64 1)))
  Option.none)]) .ret) (.seq (.region [(.mk (Option.some 11) (.mv (.tmp 0)) Option.none), (.mk (Option.some 12) (.call 87 [(.tmp 11)]) Option.none), (.mk (Option.some 13) (.bin
  .geq (.tmp 12) (.const (.int .i64 1073741824))) Option.none), (.mk (Option.some 10) (.mv (.tmp 13)) Option.none)]) (.cond (.tmp 10) (.seq (.region [(.mk (Option.some 4) (.mv
  (.const (.int .i64 0))) Option.none), (.mk (Option.some 5) (.mv (.const (.int .i64 5))) Option.none)]) .ret) .skip))))) (.seq (.region [(.mk (Option.some 14) (.mv (.tmp 1))
  Option.none), (.mk (Option.some 15) (.call 217 [(.tmp 14)]) Option.none), (.mk (Option.some 16) (.call 156 [(.tmp 15)]) Option.none), (.mk (Option.some 17) (.call 285 [(.tmp
  16)]) Option.none), (.mk (Option.some 6) (.mv (.tmp 17)) Option.none)]) (.seq (.region [(.mk (Option.some 18) (.mv (.tmp 0)) Option.none), (.mk (Option.some 19) (.mv (.tmp 0))
  Option.none), (.mk (Option.some 20) (.nilCheck (.tmp 19)) Option.none), (.mk (Option.some 21) (.fieldAddr 1 (.tmp 20)) Option.none), (.mk (Option.some 22) (.load 1 Bool.false
  (.tmp 21)) Option.none), (.mk (Option.some 23) (.mv (.tmp 6)) Option.none), (.mk (Option.some 24) (.buildSlice 1 1 [(.slice Option.none 0 0 0 0)] [(0, (1, (.tmp 23)))])
  Option.none), (.mk (Option.some 25) (.append Bool.false 1 24 (.tmp 22) (.tmp 24)) Option.none), (.mk (Option.some 26) (.nilCheck (.tmp 18)) Option.none), (.mk (Option.some 27)
  (.fieldAddr 1 (.tmp 26)) Option.none), (.mk Option.none (.store 1 (.tmp 27) (.tmp 25)) Option.none)]) (.seq (.region [(.mk (Option.some 28) (.mv (.tmp 0)) Option.none), (.mk
  (Option.some 29) (.call 87 [(.tmp 28)]) Option.none), (.mk (Option.some 4) (.mv (.tmp 29)) Option.none), (.mk (Option.some 5) (.mv (.const (.int .i64 0))) Option.none)])
  .ret))))) 30 [(.tmp 4), (.tmp 5)])
def a181 : AFn :=
  (.mk (.seq (.region [(.mk (Option.some 4) (.mv (.const (.bool Bool.false))) Option.none)]) (.seq (.seq (.region [(.mk (Option.some 6) (.mv (.tmp 0)) Option.none), (.mk (Option.some
  7) (.eq (.iface Bool.true) Bool.false (.tmp 6) (.const .nilIface)) Option.none), (.mk (Option.some 8) (.mv (.tmp 7)) Option.none), (.mk (Option.some 9) (.mv (.tmp 1))
  (Option.some (8, Bool.false))), (.mk (Option.some 10) (.eq (.iface Bool.true) Bool.false (.tmp 9) (.const .nilIface)) (Option.some (8, Bool.false))), (.mk (Option.some 11) (.pick
  (.tmp 8) (.const (.bool Bool.true)) (.tmp 10)) Option.none)]) (.cond (.tmp 11) (.seq (.region [(.mk (Option.some 12) (.mv (.tmp 0)) Option.none), (.mk (Option.some 13) (.mv (.tmp
  1)) Option.none), (.mk (Option.some 14) (.eq (.dyn [15, 17, 22, 24, 25, 26, 54, 58, 66, 77, 79, 85, 100, 103, 105, 122, 150, 155, 182, 198, 229, 245, 251, 327, 343, 349, 352,
  431, 483, 511]) Bool.false (.tmp 12) (.tmp 13)) Option.none), (.mk (Option.some 4) (.mv (.tmp 14)) Option.none)]) .ret) .skip)) (.seq (.region [(.mk (Option.some 15) (.mv (.tmp
  1)) Option.none), (.mk (Option.some 16) (.call 286 [(.tmp 15)]) Option.none), (.mk (Option.some 17) (.invoke (.tmp 16) [(430, (449, Option.none))] []) Option.none), (.mk
  (Option.some 5) (.mv (.tmp 17)) Option.none)]) (.seq (.region [(.mk (Option.some 18) (.mv (.tmp 0)) Option.none), (.mk (Option.some 19) (.mv (.tmp 1)) Option.none), (.mk
  (Option.some 20) (.mv (.tmp 5)) Option.none), (.mk (Option.some 21) (.call 287 [(.tmp 18), (.tmp 19), (.tmp 20)]) Option.none), (.mk (Option.some 4) (.mv (.tmp 21))
  Option.none)]) .ret)))) 22 [(.tmp 4)])
def a182 : AFn :=
  (.mk (.seq (.region [(.mk (Option.some 5) (.mv (.tmp 0)) Option.none), (.mk (Option.some 6) (.nilCheck (.tmp 5)) Option.none), (.mk (Option.some 7) (.fieldAddr 1 (.tmp 6))
  Option.none), (.mk (Option.some 8) (.load 1 Bool.false (.tmp 7)) Option.none), (.mk (Option.some 9) (.call 87 [(.tmp 8)]) Option.none), (.mk (Option.some 2) (.mv (.tmp 9))
  Option.none)]) (.seq (.seq (.region [(.mk (Option.some 10) (.mv (.tmp 0)) Option.none), (.mk (Option.some 11) (.nilCheck (.tmp 10)) Option.none), (.mk (Option.some 12)
  (.fieldAddr 2 (.tmp 11)) Option.none), (.mk (Option.some 13) (.load 1 Bool.false (.tmp 12)) Option.none), (.mk (Option.some 14) (.range Bool.true (.tmp 13)) Option.none)])
  (.block 0 (.loop (.seq (.region [(.mk (Option.some 15) (.next Bool.false (.tmp 14)) Option.none), (.mk (Option.some 16) (.extract (.tmp 15) 0) Option.none)]) (.seq (.cond (.tmp
  16) .skip (.exit 0)) (.block 1 (.seq (.region [(.mk (Option.some 17) (.entry (.tmp 14)) Option.none), (.mk (Option.some 18) (.extract (.tmp 17) 1) Option.none), (.mk (Option.some
  4) (.mv (.tmp 18)) Option.none)]) (.region [(.mk (Option.some 19) (.mv (.tmp 2)) Option.none), (.mk (Option.some 20) (.mv (.tmp 4)) Option.none), (.mk (Option.some 21) (.nilCheck
  (.tmp 20)) Option.none), (.mk (Option.some 22) (.fieldAddr 0 (.tmp 21)) Option.none), (.mk (Option.some 23) (.load 1 Bool.false (.tmp 22)) Option.none), (.mk (Option.some 24)
  (.minmax Bool.false [(.tmp 19), (.tmp 23)]) Option.none), (.mk (Option.some 2) (.mv (.tmp 24)) Option.none)])))))))) (.region [(.mk (Option.some 25) (.mv (.tmp 0)) Option.none),
  (.mk (Option.some 26) (.nilCheck (.tmp 25)) Option.none), (.mk (Option.some 27) (.fieldAddr 1 (.tmp 26)) Option.none), (.mk (Option.some 28) (.load 1 Bool.false (.tmp 27))
  Option.none), (.mk (Option.some 29) (.mv (.tmp 2)) Option.none), (.mk (Option.some 30) (.bin .add (.tmp 29) (.const (.int .i64 1))) Option.none), (.mk (Option.some 31) (.call 288
  [(.tmp 28), (.tmp 30)]) Option.none)]))) 32 [])
def a198 : AFn :=
  (.mk (.seq (.region [(.mk (Option.some 6) (.mv (.const .nilIface)) Option.none)]) (.seq (.region [(.mk (Option.some 10) (.mv (.tmp 0)) Option.none), (.mk (Option.some 11) (.mv
  (.tmp 1)) Option.none), (.mk (Option.some 12) (.call 297 [(.tmp 10), (.tmp 11)]) Option.none), (.mk (Option.some 9) (.mv (.tmp 12)) Option.none), (.mk (Option.some 13) (.extract
  (.tmp 9) 0) Option.none), (.mk (Option.some 14) (.extract (.tmp 9) 1) Option.none), (.mk (Option.some 7) (.mv (.tmp 13)) Option.none), (.mk (Option.some 8) (.mv (.tmp 14))
  Option.none)]) (.seq (.block 0 (.seq (.region [(.mk (Option.some 29) (.mv (.tmp 8)) Option.none), (.mk (Option.some 28) (.mv (.tmp 29)) Option.none)]) (.cond (.tmp 28) (.region
  [(.mk (Option.some 30) (.mv (.tmp 0)) Option.none), (.mk (Option.some 31) (.nilCheck (.tmp 30)) Option.none), (.mk (Option.some 32) (.fieldAddr 0 (.tmp 31)) Option.none), (.mk
  (Option.some 33) (.load 1 Bool.false (.tmp 32)) Option.none), (.mk (Option.some 34) (.mv (.tmp 7)) Option.none), (.mk (Option.some 35) (.mv (.tmp 2)) Option.none), (.mk
  (Option.some 36) (.atSlice 2 (.tmp 33) (.tmp 34)) Option.none), (.mk (Option.some 37) (.fieldAddr 1 (.tmp 36)) Option.none), (.mk Option.none (.store 1 (.tmp 37) (.tmp 35))
  Option.none)]) (.seq (.region [(.mk (Option.some 39) (.mv (.tmp 0)) Option.none), (.mk (Option.some 40) (.nilCheck (.tmp 39)) Option.none), (.mk (Option.some 41) (.fieldAddr 0
  (.tmp 40)) Option.none), (.mk (Option.some 42) (.load 1 Bool.false (.tmp 41)) Option.none), (.mk (Option.some 43) (.len (.tmp 42)) Option.none), (.mk (Option.some 44) (.bin .geq
  (.tmp 43) (.const (.int .i64 256))) Option.none), (.mk (Option.some 38) (.mv (.tmp 44)) Option.none)]) (.cond (.tmp 38) (.seq (.draws [((.mk (Option.some 45) (.mv (.tmp 0))
  Option.none), (0, 7)), ((.mk (Option.some 46) (.nilCheck (.tmp 45)) Option.none), (0, 7)), ((.mk (Option.some 47) (.fieldAddr 0 (.tmp 46)) Option.none), (0, 7)), ((.mk
  (Option.some 48) (.load 1 Bool.false (.tmp 47)) Option.none), (0, 7)), ((.mk (Option.some 49) (.len (.tmp 48)) Option.none), (0, 7)), ((.mk (Option.some 50) (.bin .add (.tmp 49)
  (.const (.int .i64 1))) Option.none), (0, 7)), ((.mk (Option.some 51) (.call 90 [(.const (.int .i64 5))]) Option.none), (0, 7)), ((.mk (Option.some 52) (.call 150 [(.const (.int
  .i64 256)), (.tmp 50), (.tmp 51)]) Option.none), (7, 9)), ((.mk (Option.some 6) (.mv (.tmp 52)) Option.none), (8, 9))]) .ret) (.region [(.mk (Option.some 15) (.mv (.tmp 0))
  Option.none), (.mk (Option.some 16) (.mv (.tmp 0)) Option.none), (.mk (Option.some 17) (.nilCheck (.tmp 16)) Option.none), (.mk (Option.some 18) (.fieldAddr 0 (.tmp 17))
  Option.none), (.mk (Option.some 19) (.load 1 Bool.false (.tmp 18)) Option.none), (.mk (Option.some 20) (.mv (.tmp 7)) Option.none), (.mk (Option.some 21) (.mv (.tmp 1))
  Option.none), (.mk (Option.some 22) (.mv (.tmp 2)) Option.none), (.mk (Option.some 23) (.build [(.str []), (.int .i64 0)] [(0, (1, (.tmp 21))), (1, (1, (.tmp 22)))])
  Option.none), (.mk (Option.some 24) (.buildSlice 1 2 [(.str []), (.int .i64 0)] [(0, (2, (.tmp 23)))]) Option.none), (.mk (Option.some 25) (.call 298 [(.tmp 19), (.tmp 20), (.tmp
  24)]) Option.none), (.mk (Option.some 26) (.nilCheck (.tmp 15)) Option.none), (.mk (Option.some 27) (.fieldAddr 0 (.tmp 26)) Option.none), (.mk Option.none (.store 1 (.tmp 27)
  (.tmp 25)) Option.none)])))))) (.seq (.region [(.mk (Option.some 6) (.mv (.const .nilIface)) Option.none)]) .ret)))) 53 [(.tmp 6)])
def a199 : AFn :=
  (.mk (.seq (.region [(.mk (Option.some 2) (.mv (.const (.pointer Option.none))) Option.none)]) (.seq (.seq (.region [(.mk (Option.some 3) (.mv (.tmp 0)) Option.none), (.mk
  (Option.some 4) (.eq .ptr Bool.false (.tmp 3) (.const (.pointer Option.none))) Option.none)]) (.cond (.tmp 4) (.seq (.region [(.mk (Option.some 2) (.mv (.const (.pointer
  Option.none))) Option.none)]) .ret) .skip)) (.seq (.region [(.mk (Option.some 5) (.mv (.tmp 0)) Option.none), (.mk (Option.some 6) (.nilCheck (.tmp 5)) Option.none), (.mk
  (Option.some 7) (.fieldAddr 0 (.tmp 6)) Option.none), (.mk (Option.some 8) (.load 1 Bool.false (.tmp 7)) Option.none), (.mk (Option.some 9) (.call 202 [(.tmp 8)]) Option.none),
  (.mk (Option.some 10) (.build [(.slice Option.none 0 0 0 0)] [(0, (1, (.tmp 9)))]) Option.none), (.mk (Option.some 11) (.box (.tmp 10)) Option.none), (.mk (Option.some 2) (.mv
  (.tmp 11)) Option.none)]) .ret))) 12 [(.tmp 2)])
def a202 : AFn :=
  (.mk (.seq (.region [(.mk (Option.some 2) (.mv (.const (.slice Option.none 0 0))) Option.none)]) (.seq (.seq (.region [(.mk (Option.some 3) (.mv (.tmp 0)) Option.none), (.mk
  (Option.some 4) (.eq .nilSlice Bool.false (.tmp 3) (.const (.slice Option.none 0 0))) Option.none)]) (.cond (.tmp 4) (.seq (.region [(.mk (Option.some 2) (.mv (.const (.slice
  Option.none 0 0))) Option.none)]) .ret) .skip)) (.seq (.region [(.mk (Option.some 5) (.buildSlice 0 2 [] []) Option.none), (.mk (Option.some 6) (.mv (.tmp 0)) Option.none), (.mk
  (Option.some 7) (.append Bool.false 2 24 (.tmp 5) (.tmp 6)) Option.none), (.mk (Option.some 2) (.mv (.tmp 7)) Option.none)]) .ret))) 8 [(.tmp 2)])
def a213 : AFn :=
  (.mk (.seq (.region [(.mk (Option.some 4) (.mv (.const (.int .i64 0))) Option.none)]) (.seq (.seq (.region [(.mk (Option.some 6) (.mv (.tmp 0)) Option.none), (.mk (Option.some 7)
  (.len (.tmp 6)) Option.none), (.mk (Option.some 8) (.mv (.const (.int .i64 0))) Option.none)]) (.block 0 (.loop (.seq (.region [(.mk (Option.some 9) (.bin .lss (.tmp 8) (.tmp 7))
  Option.none)]) (.seq (.cond (.tmp 9) .skip (.exit 0)) (.seq (.block 1 (.seq (.region [(.mk (Option.some 10) (.mv (.tmp 8)) Option.none), (.mk (Option.some 5) (.mv (.tmp 10))
  Option.none)]) (.seq (.region [(.mk (Option.some 11) (.mv (.tmp 1)) Option.none), (.mk (Option.some 12) (.mv (.tmp 0)) Option.none), (.mk (Option.some 13) (.mv (.tmp 5))
  Option.none), (.mk (Option.some 14) (.atSlice 1 (.tmp 12) (.tmp 13)) Option.none), (.mk (Option.some 15) (.load 1 Bool.false (.tmp 14)) Option.none), (.mk (Option.some 16) (.bin
  .eql (.tmp 11) (.tmp 15)) Option.none)]) (.cond (.tmp 16) (.seq (.region [(.mk (Option.some 17) (.mv (.tmp 5)) Option.none), (.mk (Option.some 4) (.mv (.tmp 17)) Option.none)])
  .ret) .skip)))) (.region [(.mk (Option.some 18) (.bin .add (.tmp 8) (.const (.int .i64 1))) Option.none), (.mk (Option.some 8) (.mv (.tmp 18)) Option.none)]))))))) (.seq (.region
  [(.mk (Option.some 4) (.mv (.const (.int .i64 (-1)))) Option.none)]) .ret))) 19 [(.tmp 4)])
def a214 : AFn :=
  (.mk (.seq (.region [(.mk (Option.some 2) (.mv (.const (.slice Option.none 0 0))) Option.none)]) (.seq (.region [(.mk (Option.some 3) (.mv (.tmp 0)) Option.none), (.mk (Option.some
  4) (.lenStr (.tmp 3)) Option.none), (.mk (Option.some 5) (.conv .u64 (.tmp 4)) Option.none), (.mk (Option.some 6) (.call 120 [(.tmp 5)]) Option.none), (.mk (Option.some 7) (.mv
  (.tmp 0)) Option.none), (.mk (Option.some 8) (.append Bool.true 1 1 (.tmp 6) (.tmp 7)) Option.none), (.mk (Option.some 2) (.mv (.tmp 8)) Option.none)]) .ret)) 9 [(.tmp 2)])
def a215 : AFn :=
  (.mk (.seq (.region [(.mk (Option.some 2) (.mv (.const (.slice Option.none 0 0))) Option.none)]) (.seq (.seq (.region [(.mk (Option.some 3) (.mv (.tmp 0)) Option.none)]) (.cond
  (.tmp 3) (.seq (.region [(.mk (Option.some 4) (.buildSlice 1 1 [(.int .u8 0)] [(0, (1, (.const (.int .u8 1))))]) Option.none), (.mk (Option.some 2) (.mv (.tmp 4)) Option.none)])
  .ret) .skip)) (.seq (.region [(.mk (Option.some 5) (.buildSlice 1 1 [(.int .u8 0)] [(0, (1, (.const (.int .u8 0))))]) Option.none), (.mk (Option.some 2) (.mv (.tmp 5))
  Option.none)]) .ret))) 6 [(.tmp 2)])
def a216 : AFn :=
  (.mk (.seq (.region [(.mk (Option.some 2) (.mv (.const (.slice Option.none 0 0))) Option.none)]) (.seq (.region [(.mk (Option.some 3) (.mv (.tmp 0)) Option.none), (.mk (Option.some
  4) (.conv .u64 (.tmp 3)) Option.none), (.mk (Option.some 5) (.bin .shl (.tmp 4) (.const (.int .u64 1))) Option.none), (.mk (Option.some 6) (.mv (.tmp 0)) Option.none), (.mk
  (Option.some 7) (.bin .shr (.tmp 6) (.const (.int .u64 63))) Option.none), (.mk (Option.some 8) (.conv .u64 (.tmp 7)) Option.none), (.mk (Option.some 9) (.bin .xor (.tmp 5) (.tmp
  8)) Option.none), (.mk (Option.some 10) (.call 120 [(.tmp 9)]) Option.none), (.mk (Option.some 2) (.mv (.tmp 10)) Option.none)]) .ret)) 11 [(.tmp 2)])
def a217 : AFn :=
  (.mk (.seq (.region [(.mk (Option.some 1) (.box (.tmp 0)) Option.none), (.mk (Option.some 2) (.mv (.const .nilFunc)) Option.none)]) (.seq (.region [(.mk (Option.some 3) (.mkFunc
  (.func 307) [] [(.tmp 1)]) Option.none), (.mk (Option.some 2) (.mv (.tmp 3)) Option.none)]) .ret)) 4 [(.tmp 2)])
def a223 : AFn :=
  (.mk (.seq (.region [(.mk (Option.some 2) (.mv (.const (.int .i64 0))) Option.none)]) (.seq (.cond (.const (.bool Bool.false)) (.seq (.region [(.mk (Option.some 3) (.mv (.tmp 0))
  Option.none), (.mk (Option.some 4) (.conv .u32 (.tmp 3)) Option.none), (.mk (Option.some 5) (.call 320 [(.tmp 4)]) Option.none), (.mk (Option.some 2) (.mv (.tmp 5))
  Option.none)]) .ret) .skip) (.seq (.region [(.mk (Option.some 6) (.mv (.tmp 0)) Option.none), (.mk (Option.some 7) (.call 321 [(.tmp 6)]) Option.none), (.mk (Option.some 2) (.mv
  (.tmp 7)) Option.none)]) .ret))) 8 [(.tmp 2)])
def a250 : AFn :=
  (.mk (.seq (.region [(.mk (Option.some 4) (.mv (.const (.bool Bool.false))) Option.none)]) (.seq (.region [(.mk (Option.some 5) (.mv (.tmp 0)) Option.none), (.mk (Option.some 6)
  (.mv (.tmp 1)) Option.none), (.mk (Option.some 7) (.call 342 [(.tmp 5), (.tmp 6)]) Option.none), (.mk (Option.some 8) (.bin .geq (.tmp 7) (.const (.int .i64 0))) Option.none),
  (.mk (Option.some 4) (.mv (.tmp 8)) Option.none)]) .ret)) 9 [(.tmp 4)])
def a251 : AFn :=
  (.mk (.seq (.region [(.mk (Option.some 1) (.box (.tmp 0)) Option.none), (.mk (Option.some 2) (.mv (.const (.bool Bool.false))) Option.none)]) (.seq (.region [(.mk (Option.some 3)
  (.load 3 Bool.true (.tmp 1)) Option.none), (.mk (Option.some 4) (.call 252 [(.tmp 3)]) Option.none), (.mk (Option.some 5) (.un .not (.tmp 4)) Option.none), (.mk (Option.some 2)
  (.mv (.tmp 5)) Option.none)]) .ret)) 6 [(.tmp 2)])
def a252 : AFn :=
  (.mk (.seq (.region [(.mk (Option.some 1) (.box (.tmp 0)) Option.none), (.mk (Option.some 2) (.mv (.const (.bool Bool.false))) Option.none)]) (.seq (.region [(.mk (Option.some 3)
  (.fieldAddr 0 (.tmp 1)) Option.none), (.mk (Option.some 4) (.load 1 Bool.false (.tmp 3)) Option.none), (.mk (Option.some 5) (.lenStr (.tmp 4)) Option.none), (.mk (Option.some 6)
  (.bin .leq (.tmp 5) (.const (.int .i64 16))) Option.none), (.mk (Option.some 7) (.mv (.tmp 6)) Option.none), (.mk (Option.some 8) (.fieldAddr 2 (.tmp 1)) (Option.some (7,
  Bool.true))), (.mk (Option.some 9) (.load 1 Bool.false (.tmp 8)) (Option.some (7, Bool.true))), (.mk (Option.some 10) (.mv (.tmp 9)) (Option.some (7, Bool.true))), (.mk
  (Option.some 11) (.fieldAddr 1 (.tmp 1)) (Option.some (10, Bool.false))), (.mk (Option.some 12) (.load 1 Bool.false (.tmp 11)) (Option.some (10, Bool.false))), (.mk (Option.some
  13) (.bin .eql (.tmp 12) (.const (.int .i64 0))) (Option.some (10, Bool.false))), (.mk (Option.some 14) (.pick (.tmp 10) (.const (.bool Bool.true)) (.tmp 13)) (Option.some (7,
  Bool.true))), (.mk (Option.some 15) (.pick (.tmp 7) (.tmp 14) (.const (.bool Bool.false))) Option.none), (.mk (Option.some 2) (.mv (.tmp 15)) Option.none)]) .ret)) 16 [(.tmp 2)])
def a257 : AFn :=
  (.mk (.seq (.region [(.mk (Option.some 6) (.box (.tmp 2)) Option.none), (.mk (Option.some 8) (.mv (.const (.bool Bool.false))) Option.none)]) (.block 0 (.loop (.block 1 (.seq (.seq
  (.region [(.mk (Option.some 16) (.mv (.tmp 0)) Option.none), (.mk (Option.some 17) (.call 286 [(.tmp 16)]) Option.none), (.mk (Option.some 18) (.mv (.tmp 3)) Option.none), (.mk
  (Option.some 19) (.invoke (.tmp 17) [(430, (448, Option.none))] [(.tmp 18)]) Option.none)]) (.cond (.tmp 19) (.seq (.region [(.mk (Option.some 20) (.load 3 Bool.true (.tmp 6))
  Option.none), (.mk (Option.some 21) (.call 344 [(.tmp 20)]) Option.none), (.mk (Option.some 22) (.mv (.tmp 0)) Option.none), (.mk (Option.some 23) (.call 254 [(.tmp 22)])
  Option.none), (.mk (Option.some 24) (.call 345 [(.tmp 21), (.tmp 23)]) Option.none)]) (.seq (.region [(.mk (Option.some 8) (.mv (.const (.bool Bool.true))) Option.none)]) .ret))
  .skip)) (.seq (.seq (.region [(.mk (Option.some 26) (.mv (.tmp 0)) Option.none), (.mk (Option.some 27) (.isIface [] [8, 10, 11, 14, 15, 16, 17, 19, 22, 24, 25, 26, 32, 54, 58,
  66, 77, 79, 85, 100, 103, 105, 122, 138, 150, 155, 182, 198, 229, 235, 236, 245, 251, 253, 254, 255, 271, 327, 343, 349, 350, 351, 352, 353, 354, 359, 360, 361, 366, 429, 430,
  431, 483, 511] Bool.true (.tmp 26)) Option.none), (.mk (Option.some 25) (.mv (.tmp 27)) Option.none), (.mk (Option.some 28) (.extract (.tmp 25) 0) Option.none), (.mk (Option.some
  29) (.extract (.tmp 25) 1) Option.none), (.mk (Option.some 9) (.mv (.tmp 28)) Option.none), (.mk (Option.some 10) (.mv (.tmp 29)) Option.none)]) (.seq (.region [(.mk (Option.some
  30) (.mv (.tmp 10)) Option.none), (.mk (Option.some 31) (.mv (.tmp 30)) Option.none), (.mk (Option.some 32) (.mv (.tmp 9)) (Option.some (31, Bool.true))), (.mk (Option.some 33)
  (.mv (.tmp 1)) (Option.some (31, Bool.true))), (.mk (Option.some 34) (.invoke (.tmp 32) [] [(.tmp 33)]) (Option.some (31, Bool.true))), (.mk (Option.some 35) (.pick (.tmp 31)
  (.tmp 34) (.const (.bool Bool.false))) Option.none)]) (.cond (.tmp 35) (.seq (.region [(.mk (Option.some 8) (.mv (.const (.bool Bool.true))) Option.none)]) .ret) .skip))) (.seq
  (.region [(.mk (Option.some 36) (.mv (.tmp 0)) Option.none)]) (.block 2 (.seq (.region [(.mk (Option.some 37) (.isIface [251, 253, 254, 255, 349, 350, 351, 352, 353, 354] [8, 10,
  11, 14, 15, 16, 17, 19, 22, 24, 25, 26, 32, 54, 58, 66, 77, 79, 85, 100, 103, 105, 122, 138, 150, 155, 182, 198, 229, 235, 236, 245, 271, 327, 343, 359, 360, 361, 366, 429, 430,
  431, 483, 511] Bool.true (.tmp 36)) Option.none), (.mk (Option.some 38) (.extract (.tmp 37) 1) Option.none), (.mk (Option.some 39) (.extract (.tmp 37) 0) Option.none)]) (.cond
  (.tmp 38) (.seq (.region [(.mk (Option.some 11) (.mv (.tmp 39)) Option.none)]) (.seq (.region [(.mk (Option.some 40) (.mv (.tmp 11)) Option.none), (.mk (Option.some 41) (.invoke
  (.tmp 40) [(251, (441, (Option.some (0, (1, Bool.true))))), (253, (441, Option.none)), (349, (441, (Option.some (0, (1, Bool.true))))), (352, (441, (Option.some (0, (1,
  Bool.true)))))] []) Option.none), (.mk (Option.some 0) (.mv (.tmp 41)) Option.none)]) (.seq (.region [(.mk (Option.some 42) (.mv (.tmp 0)) Option.none), (.mk (Option.some 43)
  (.eq (.iface Bool.true) Bool.false (.tmp 42) (.const .nilIface)) Option.none)]) (.cond (.tmp 43) (.seq (.region [(.mk (Option.some 8) (.mv (.const (.bool Bool.false)))
  Option.none)]) .ret) .skip)))) (.seq (.region [(.mk (Option.some 44) (.isIface [] [8, 10, 11, 14, 15, 16, 17, 19, 22, 24, 25, 26, 32, 54, 58, 66, 77, 79, 85, 100, 103, 105, 122,
  138, 150, 155, 182, 198, 229, 235, 236, 245, 251, 253, 254, 255, 271, 327, 343, 349, 350, 351, 352, 353, 354, 359, 360, 361, 366, 429, 430, 431, 483, 511] Bool.true (.tmp 36))
  Option.none), (.mk (Option.some 45) (.extract (.tmp 44) 1) Option.none), (.mk (Option.some 46) (.extract (.tmp 44) 0) Option.none)]) (.cond (.tmp 45) (.seq (.region [(.mk
  (Option.some 12) (.mv (.tmp 46)) Option.none)]) (.seq (.seq (.region [(.mk (Option.some 47) (.mv (.tmp 12)) Option.none), (.mk (Option.some 48) (.invoke (.tmp 47) [(251, (441,
  (Option.some (0, (1, Bool.true))))), (253, (441, Option.none)), (349, (441, (Option.some (0, (1, Bool.true))))), (352, (441, (Option.some (0, (1, Bool.true)))))] [])
  Option.none), (.mk (Option.some 49) (.len (.tmp 48)) Option.none), (.mk (Option.some 50) (.mv (.const (.int .i64 0))) Option.none)]) (.block 3 (.loop (.seq (.region [(.mk
  (Option.some 51) (.bin .lss (.tmp 50) (.tmp 49)) Option.none)]) (.seq (.cond (.tmp 51) .skip (.exit 3)) (.seq (.block 4 (.seq (.region [(.mk (Option.some 52) (.atSlice 1 (.tmp
  48) (.tmp 50)) Option.none), (.mk (Option.some 53) (.load 1 Bool.false (.tmp 52)) Option.none), (.mk (Option.some 14) (.mv (.tmp 53)) Option.none)]) (.seq (.seq (.region [(.mk
  (Option.some 54) (.mv (.tmp 14)) Option.none), (.mk (Option.some 55) (.eq (.iface Bool.true) Bool.false (.tmp 54) (.const .nilIface)) Option.none)]) (.cond (.tmp 55) (.exit 4)
  .skip)) (.seq (.region [(.mk (Option.some 56) (.mv (.tmp 14)) Option.none), (.mk (Option.some 57) (.mv (.tmp 1)) Option.none), (.mk (Option.some 58) (.load 3 Bool.true (.tmp 6))
  Option.none), (.mk (Option.some 59) (.mv (.tmp 3)) Option.none), (.mk (Option.some 60) (.call 257 [(.tmp 56), (.tmp 57), (.tmp 58), (.tmp 59)]) Option.none)]) (.cond (.tmp 60)
  (.seq (.region [(.mk (Option.some 8) (.mv (.const (.bool Bool.true))) Option.none)]) .ret) .skip))))) (.region [(.mk (Option.some 61) (.bin .add (.tmp 50) (.const (.int .i64 1)))
  Option.none), (.mk (Option.some 50) (.mv (.tmp 61)) Option.none)]))))))) (.seq (.region [(.mk (Option.some 8) (.mv (.const (.bool Bool.false))) Option.none)]) .ret))) (.seq
  (.region [(.mk (Option.some 15) (.mv (.tmp 36)) Option.none)]) (.seq (.region [(.mk (Option.some 8) (.mv (.const (.bool Bool.false))) Option.none)]) .ret)))))))))))))) 62 [(.tmp
  8)])
def a258 : AFn :=
  (.mk (.seq (.region [(.mk (Option.some 4) (.mv (.const (.int .i64 0))) Option.none), (.mk (Option.some 5) (.mv (.const .nilIface)) Option.none)]) (.seq (.seq (.region [(.mk
  (Option.some 7) (.mv (.tmp 0)) Option.none), (.mk (Option.some 8) (.nilCheck (.tmp 7)) Option.none), (.mk (Option.some 9) (.fieldAddr 2 (.tmp 8)) Option.none), (.mk (Option.some
  10) (.load 1 Bool.false (.tmp 9)) Option.none), (.mk (Option.some 11) (.bin .lss (.tmp 10) (.const (.int .i64 0))) Option.none)]) (.cond (.tmp 11) (.seq (.region [(.mk
  (Option.some 4) (.mv (.const (.int .i64 0))) Option.none), (.mk (Option.some 5) (.mv (.const .nilIface)) Option.none)]) .ret) .skip)) (.seq (.draws [((.mk (Option.some 12) (.mv
  (.tmp 0)) Option.none), (0, 8)), ((.mk (Option.some 13) (.nilCheck (.tmp 12)) Option.none), (0, 8)), ((.mk (Option.some 14) (.fieldAddr 0 (.tmp 13)) Option.none), (0, 8)), ((.mk
  (Option.some 15) (.load 1 Bool.false (.tmp 14)) Option.none), (0, 8)), ((.mk (Option.some 16) (.mv (.tmp 0)) Option.none), (0, 8)), ((.mk (Option.some 17) (.nilCheck (.tmp 16))
  Option.none), (0, 8)), ((.mk (Option.some 18) (.fieldAddr 2 (.tmp 17)) Option.none), (0, 8)), ((.mk (Option.some 19) (.load 1 Bool.false (.tmp 18)) Option.none), (0, 8)), ((.mk
  (Option.some 20) (.call 268 [(.tmp 15), (.tmp 19)]) Option.none), (0, 10)), ((.mk (Option.some 6) (.mv (.tmp 20)) Option.none), (9, 10))]) (.seq (.seq (.region [(.mk (Option.some
  21) (.mv (.tmp 6)) Option.none), (.mk (Option.some 22) (.bin .eql (.tmp 21) (.const (.int .i64 0))) Option.none), (.mk (Option.some 23) (.mv (.tmp 22)) Option.none), (.mk
  (Option.some 24) (.mv (.tmp 1)) (Option.some (23, Bool.false))), (.mk (Option.some 25) (.mv (.tmp 0)) (Option.some (23, Bool.false))), (.mk (Option.some 26) (.nilCheck (.tmp 25))
  (Option.some (23, Bool.false))), (.mk (Option.some 27) (.fieldAddr 1 (.tmp 26)) (Option.some (23, Bool.false))), (.mk (Option.some 28) (.load 1 Bool.false (.tmp 27)) (Option.some
  (23, Bool.false))), (.mk (Option.some 29) (.mv (.tmp 6)) (Option.some (23, Bool.false))), (.mk (Option.some 30) (.bin .sub (.tmp 28) (.tmp 29)) (Option.some (23, Bool.false))),
  (.mk (Option.some 31) (.bin .leq (.tmp 24) (.tmp 30)) (Option.some (23, Bool.false))), (.mk (Option.some 32) (.pick (.tmp 23) (.const (.bool Bool.true)) (.tmp 31)) Option.none)])
  (.cond (.tmp 32) (.seq (.region [(.mk (Option.some 33) (.mv (.tmp 0)) Option.none), (.mk (Option.some 34) (.nilCheck (.tmp 33)) Option.none), (.mk (Option.some 35) (.fieldAddr 2
  (.tmp 34)) Option.none), (.mk (Option.some 36) (.load 1 Bool.false (.tmp 35)) Option.none), (.mk (Option.some 4) (.mv (.tmp 36)) Option.none), (.mk (Option.some 5) (.mv (.const
  .nilIface)) Option.none)]) .ret) .skip)) (.seq (.draws [((.mk (Option.some 37) (.mv (.tmp 0)) Option.none), (0, 21)), ((.mk (Option.some 38) (.nilCheck (.tmp 37)) Option.none),
  (0, 21)), ((.mk (Option.some 39) (.fieldAddr 2 (.tmp 38)) Option.none), (0, 21)), ((.mk (Option.some 40) (.load 1 Bool.false (.tmp 39)) Option.none), (0, 21)), ((.mk (Option.some
  41) (.bin .add (.tmp 40) (.const (.int .i64 1))) Option.none), (0, 21)), ((.mk (Option.some 42) (.mv (.tmp 0)) Option.none), (0, 18)), ((.mk (Option.some 43) (.nilCheck (.tmp
  42)) Option.none), (0, 18)), ((.mk (Option.some 44) (.fieldAddr 2 (.tmp 43)) Option.none), (0, 18)), ((.mk (Option.some 45) (.load 1 Bool.false (.tmp 44)) Option.none), (0, 18)),
  ((.mk (Option.some 46) (.mv (.tmp 0)) Option.none), (0, 17)), ((.mk (Option.some 47) (.nilCheck (.tmp 46)) Option.none), (0, 17)), ((.mk (Option.some 48) (.fieldAddr 0 (.tmp 47))
  Option.none), (0, 17)), ((.mk (Option.some 49) (.load 1 Bool.false (.tmp 48)) Option.none), (0, 17)), ((.mk (Option.some 50) (.mv (.tmp 0)) Option.none), (0, 17)), ((.mk
  (Option.some 51) (.nilCheck (.tmp 50)) Option.none), (0, 17)), ((.mk (Option.some 52) (.fieldAddr 2 (.tmp 51)) Option.none), (0, 17)), ((.mk (Option.some 53) (.load 1 Bool.false
  (.tmp 52)) Option.none), (0, 17)), ((.mk (Option.some 54) (.call 161 [(.tmp 49), (.tmp 53)]) Option.none), (0, 18)), ((.mk (Option.some 55) (.call 158 [(.tmp 45), (.tmp 54)])
  Option.none), (18, 21)), ((.mk (Option.some 4) (.mv (.tmp 41)) Option.none), (19, 21)), ((.mk (Option.some 5) (.mv (.tmp 55)) Option.none), (19, 21))]) .ret))))) 56 [(.tmp 4),
  (.tmp 5)])
def a259 : AFn :=
  (.mk (.seq (.region [(.mk (Option.some 2) (.mv (.const (.slice Option.none 0 0))) Option.none)]) (.seq (.region [(.mk (Option.some 3) (.mv (.tmp 0)) Option.none), (.mk (Option.some
  4) (.call 346 [(.const (.slice Option.none 0 0)), (.tmp 3)]) Option.none), (.mk (Option.some 2) (.mv (.tmp 4)) Option.none)]) .ret)) 5 [(.tmp 2)])
def a260 : AFn :=
  (.mk (.seq (.region [(.mk (Option.some 3) (.mv (.tmp 0)) Option.none), (.mk (Option.some 4) (.len (.tmp 3)) Option.none), (.mk (Option.some 2) (.mv (.tmp 4)) Option.none)])
  (.region [(.mk (Option.some 5) (.mv (.tmp 0)) Option.none), (.mk (Option.some 6) (.mv (.tmp 2)) Option.none), (.mk (Option.some 7) (.mv (.tmp 2)) Option.none), (.mk (Option.some
  8) (.conv .u64 (.tmp 7)) Option.none), (.mk (Option.some 9) (.call 223 [(.tmp 8)]) Option.none), (.mk (Option.some 10) (.call 347 [(.tmp 5), (.const (.int .i64 0)), (.tmp 6),
  (.tmp 9)]) Option.none)])) 11 [])
def a261 : AFn :=
  (.mk (.seq (.region [(.mk (Option.some 4) (.load 1 Bool.false (.tmp 1)) Option.none), (.mk (Option.some 5) (.range Bool.true (.tmp 4)) Option.none)]) (.block 0 (.loop (.seq
  (.region [(.mk (Option.some 6) (.next Bool.false (.tmp 5)) Option.none), (.mk (Option.some 7) (.extract (.tmp 6) 0) Option.none)]) (.seq (.cond (.tmp 7) .skip (.exit 0)) (.block
  1 (.seq (.region [(.mk (Option.some 8) (.entry (.tmp 5)) Option.none), (.mk (Option.some 9) (.extract (.tmp 8) 0) Option.none), (.mk (Option.some 3) (.mv (.tmp 9)) Option.none)])
  (.seq (.region [(.mk (Option.some 10) (.mv (.tmp 0)) Option.none), (.mk (Option.some 11) (.mv (.tmp 3)) Option.none), (.mk (Option.some 12) (.callv (.tmp 10) [(.tmp 11)])
  Option.none), (.mk (Option.some 13) (.un .not (.tmp 12)) Option.none)]) (.cond (.tmp 13) .ret .skip))))))))) 14 [])
def a262 : AFn :=
  (.mk (.seq (.region [(.mk (Option.some 6) (.mv (.const .nilIface)) Option.none)]) (.seq (.seq (.region [(.mk (Option.some 10) (.mv (.tmp 0)) Option.none), (.mk (Option.some 11)
  (.eq .ptr Bool.false (.tmp 10) (.const (.pointer Option.none))) Option.none)]) (.cond (.tmp 11) (.seq (.region [(.mk (Option.some 12) (.call 90 [(.const (.int .i64 1))])
  Option.none), (.mk (Option.some 6) (.mv (.tmp 12)) Option.none)]) .ret) .skip)) (.seq (.seq (.region [(.mk (Option.some 13) (.mv (.tmp 1)) Option.none), (.mk (Option.some 14)
  (.call 348 [(.tmp 13)]) Option.none), (.mk (Option.some 7) (.mv (.tmp 14)) Option.none)]) (.seq (.region [(.mk (Option.some 15) (.mv (.tmp 7)) Option.none), (.mk (Option.some 16)
  (.eq (.iface Bool.true) Bool.true (.tmp 15) (.const .nilIface)) Option.none)]) (.cond (.tmp 16) (.seq (.region [(.mk (Option.some 17) (.mv (.tmp 7)) Option.none), (.mk
  (Option.some 6) (.mv (.tmp 17)) Option.none)]) .ret) .skip))) (.seq (.seq (.region [(.mk (Option.some 18) (.mv (.tmp 0)) Option.none), (.mk (Option.some 19) (.nilCheck (.tmp 18))
  Option.none), (.mk (Option.some 20) (.fieldAddr 3 (.tmp 19)) Option.none), (.mk (Option.some 21) (.load 1 Bool.false (.tmp 20)) Option.none)]) (.cond (.tmp 21) (.seq (.region
  [(.mk (Option.some 22) (.call 90 [(.const (.int .i64 8))]) Option.none), (.mk (Option.some 6) (.mv (.tmp 22)) Option.none)]) .ret) .skip)) (.seq (.seq (.region [(.mk (Option.some
  24) (.mv (.tmp 0)) Option.none), (.mk (Option.some 25) (.nilCheck (.tmp 24)) Option.none), (.mk (Option.some 26) (.fieldAddr 1 (.tmp 25)) Option.none), (.mk (Option.some 27)
  (.load 1 Bool.false (.tmp 26)) Option.none), (.mk (Option.some 28) (.mv (.tmp 1)) Option.none), (.mk (Option.some 29) (.lookup (.int .i64) (.agg [(.slice Option.none 0 0 0 0),
  (.int .i64 0)]) Bool.true (.tmp 27) (.tmp 28)) Option.none), (.mk (Option.some 23) (.mv (.tmp 29)) Option.none), (.mk (Option.some 30) (.extract (.tmp 23) 0) Option.none), (.mk
  (Option.some 31) (.extract (.tmp 23) 1) Option.none), (.mk (Option.some 8) (.alloc [(.slice Option.none 0 0 0 0), (.int .i64 0)]) Option.none), (.mk Option.none (.store 2 (.tmp
  8) (.tmp 30)) Option.none), (.mk (Option.some 9) (.mv (.tmp 31)) Option.none)]) (.seq (.region [(.mk (Option.some 32) (.mv (.tmp 9)) Option.none), (.mk (Option.some 33) (.un .not
  (.tmp 32)) Option.none), (.mk (Option.some 34) (.mv (.tmp 33)) Option.none), (.mk (Option.some 35) (.mv (.tmp 2)) (Option.some (34, Bool.true))), (.mk (Option.some 36) (.un .not
  (.tmp 35)) (Option.some (34, Bool.true))), (.mk (Option.some 37) (.pick (.tmp 34) (.tmp 36) (.const (.bool Bool.false))) Option.none)]) (.cond (.tmp 37) (.seq (.region [(.mk
  (Option.some 38) (.mv (.tmp 1)) Option.none), (.mk (Option.some 39) (.call 90 [(.const (.int .i64 3))]) Option.none), (.mk (Option.some 40) (.call 82 [(.tmp 38), (.tmp 39)])
  Option.none), (.mk (Option.some 6) (.mv (.tmp 40)) Option.none)]) .ret) .skip))) (.seq (.region [(.mk (Option.some 6) (.mv (.const .nilIface)) Option.none)]) .ret)))))) 41 [(.tmp
  6)])
def a263 : AFn :=
  (.mk (.seq (.region [(.mk (Option.some 6) (.mv (.const .nilIface)) Option.none)]) (.seq (.region [(.mk (Option.some 12) (.mv (.tmp 0)) Option.none), (.mk (Option.some 13) (.call
  349 [(.tmp 12)]) Option.none), (.mk (Option.some 7) (.mv (.tmp 13)) Option.none)]) (.seq (.seq (.region [(.mk (Option.some 14) (.mv (.tmp 2)) Option.none), (.mk (Option.some 15)
  (.len (.tmp 14)) Option.none), (.mk (Option.some 16) (.mv (.const (.int .i64 0))) Option.none)]) (.block 0 (.loop (.seq (.region [(.mk (Option.some 17) (.bin .lss (.tmp 16) (.tmp
  15)) Option.none)]) (.seq (.cond (.tmp 17) .skip (.exit 0)) (.seq (.block 1 (.seq (.region [(.mk (Option.some 18) (.atSlice 1 (.tmp 14) (.tmp 16)) Option.none), (.mk (Option.some
  19) (.load 1 Bool.false (.tmp 18)) Option.none), (.mk (Option.some 9) (.mv (.tmp 19)) Option.none)]) (.seq (.seq (.region [(.mk (Option.some 20) (.mv (.tmp 9)) Option.none), (.mk
  (Option.some 21) (.len (.tmp 20)) Option.none), (.mk (Option.some 22) (.mv (.tmp 7)) Option.none), (.mk (Option.some 23) (.bin .gtr (.tmp 21) (.tmp 22)) Option.none)]) (.cond
  (.tmp 23) (.seq (.draws [((.mk (Option.some 24) (.mv (.tmp 0)) Option.none), (0, 7)), ((.mk (Option.some 25) (.nilCheck (.tmp 24)) Option.none), (0, 7)), ((.mk (Option.some 26)
  (.fieldAddr 0 (.tmp 25)) Option.none), (0, 7)), ((.mk (Option.some 27) (.load 1 Bool.false (.tmp 26)) Option.none), (0, 7)), ((.mk (Option.some 28) (.mv (.tmp 9)) Option.none),
  (0, 7)), ((.mk (Option.some 29) (.len (.tmp 28)) Option.none), (0, 7)), ((.mk (Option.some 30) (.call 90 [(.const (.int .i64 5))]) Option.none), (0, 7)), ((.mk (Option.some 31)
  (.call 150 [(.tmp 27), (.tmp 29), (.tmp 30)]) Option.none), (7, 9)), ((.mk (Option.some 6) (.mv (.tmp 31)) Option.none), (8, 9))]) .ret) .skip)) (.region [(.mk (Option.some 32)
  (.mv (.tmp 7)) Option.none), (.mk (Option.some 33) (.mv (.tmp 9)) Option.none), (.mk (Option.some 34) (.len (.tmp 33)) Option.none), (.mk (Option.some 35) (.bin .sub (.tmp 32)
  (.tmp 34)) Option.none), (.mk (Option.some 7) (.mv (.tmp 35)) Option.none)])))) (.region [(.mk (Option.some 36) (.bin .add (.tmp 16) (.const (.int .i64 1))) Option.none), (.mk
  (Option.some 16) (.mv (.tmp 36)) Option.none)]))))))) (.seq (.seq (.region [(.mk (Option.some 38) (.mv (.tmp 0)) Option.none), (.mk (Option.some 39) (.nilCheck (.tmp 38))
  Option.none), (.mk (Option.some 40) (.fieldAddr 1 (.tmp 39)) Option.none), (.mk (Option.some 41) (.load 1 Bool.false (.tmp 40)) Option.none), (.mk (Option.some 42) (.mv (.tmp 1))
  Option.none), (.mk (Option.some 43) (.lookup (.int .i64) (.agg [(.slice Option.none 0 0 0 0), (.int .i64 0)]) Bool.true (.tmp 41) (.tmp 42)) Option.none), (.mk (Option.some 37)
  (.mv (.tmp 43)) Option.none), (.mk (Option.some 44) (.extract (.tmp 37) 0) Option.none), (.mk (Option.some 45) (.extract (.tmp 37) 1) Option.none), (.mk (Option.some 10) (.alloc
  [(.slice Option.none 0 0 0 0), (.int .i64 0)]) Option.none), (.mk Option.none (.store 2 (.tmp 10) (.tmp 44)) Option.none), (.mk (Option.some 11) (.mv (.tmp 45)) Option.none)])
  (.seq (.region [(.mk (Option.some 46) (.mv (.tmp 11)) Option.none), (.mk (Option.some 47) (.un .not (.tmp 46)) Option.none), (.mk (Option.some 48) (.mv (.tmp 47)) Option.none),
  (.mk (Option.some 49) (.mv (.tmp 0)) (Option.some (48, Bool.true))), (.mk (Option.some 50) (.nilCheck (.tmp 49)) (Option.some (48, Bool.true))), (.mk (Option.some 51) (.fieldAddr
  1 (.tmp 50)) (Option.some (48, Bool.true))), (.mk (Option.some 52) (.load 1 Bool.false (.tmp 51)) (Option.some (48, Bool.true))), (.mk (Option.some 53) (.lenMap (.tmp 52))
  (Option.some (48, Bool.true))), (.mk (Option.some 54) (.bin .geq (.tmp 53) (.const (.int .i64 64))) (Option.some (48, Bool.true))), (.mk (Option.some 55) (.pick (.tmp 48) (.tmp
  54) (.const (.bool Bool.false))) Option.none)]) (.cond (.tmp 55) (.seq (.region [(.mk (Option.some 56) (.mv (.tmp 1)) Option.none), (.mk (Option.some 57) (.call 90 [(.const (.int
  .i64 5))]) Option.none), (.mk (Option.some 58) (.call 150 [(.const (.int .i64 64)), (.tmp 56), (.tmp 57)]) Option.none), (.mk (Option.some 6) (.mv (.tmp 58)) Option.none)]) .ret)
  .skip))) (.seq (.region [(.mk (Option.some 6) (.mv (.const .nilIface)) Option.none)]) .ret))))) 59 [(.tmp 6)])
def a264 : AFn :=
  (.mk (.seq (.region [(.mk (Option.some 5) (.box (.tmp 2)) Option.none), (.mk (Option.some 6) (.mv (.const (.int .i64 0))) Option.none)]) (.seq (.region [(.mk (Option.some 8) (.mv
  (.tmp 0)) Option.none), (.mk (Option.some 9) (.call 266 [(.tmp 8)]) Option.none), (.mk (Option.some 7) (.mv (.tmp 9)) Option.none)]) (.seq (.seq (.region [(.mk (Option.some 10)
  (.mv (.tmp 7)) Option.none), (.mk (Option.some 11) (.eq (.iface Bool.true) Bool.false (.tmp 10) (.const .nilIface)) Option.none)]) (.cond (.tmp 11) (.draws [((.mk (Option.some
  12) (.mv (.tmp 0)) Option.none), (0, 6)), ((.mk (Option.some 13) (.nilCheck (.tmp 12)) Option.none), (0, 6)), ((.mk (Option.some 14) (.fieldAddr 1 (.tmp 13)) Option.none), (0,
  6)), ((.mk (Option.some 15) (.load 1 Bool.false (.tmp 14)) Option.none), (0, 6)), ((.mk (Option.some 16) (.mv (.tmp 1)) Option.none), (0, 6)), ((.mk (Option.some 17) (.load 2
  Bool.true (.tmp 5)) Option.none), (0, 6)), ((.mk Option.none (.mapPut (.int .i64) (.tmp 15) (.tmp 16) (.tmp 17)) Option.none), (0, 7))]) .skip)) (.seq (.region [(.mk (Option.some
  18) (.mv (.tmp 7)) Option.none), (.mk (Option.some 19) (.call 67 [(.tmp 18)]) Option.none), (.mk (Option.some 6) (.mv (.tmp 19)) Option.none)]) .ret)))) 20 [(.tmp 6)])
def a265 : AFn :=
  (.mk (.seq (.region [(.mk (Option.some 2) (.mv (.const (.int .u32 0))) Option.none)]) (.seq (.region [(.mk (Option.some 3) (.mv (.const (.int .u32 4294967295))) Option.none)])
  (.seq (.seq (.region [(.mk (Option.some 8) (.mv (.tmp 0)) Option.none), (.mk (Option.some 9) (.len (.tmp 8)) Option.none), (.mk (Option.some 10) (.mv (.const (.int .i64 0)))
  Option.none)]) (.block 0 (.loop (.seq (.region [(.mk (Option.some 11) (.bin .lss (.tmp 10) (.tmp 9)) Option.none)]) (.seq (.cond (.tmp 11) .skip (.exit 0)) (.seq (.block 1 (.seq
  (.region [(.mk (Option.some 12) (.atSlice 1 (.tmp 8) (.tmp 10)) Option.none), (.mk (Option.some 13) (.load 1 Bool.false (.tmp 12)) Option.none), (.mk (Option.some 5) (.mv (.tmp
  13)) Option.none)]) (.seq (.region [(.mk (Option.some 14) (.mv (.tmp 5)) Option.none), (.mk (Option.some 15) (.len (.tmp 14)) Option.none), (.mk (Option.some 16) (.mv (.const
  (.int .i64 0))) Option.none)]) (.block 2 (.loop (.seq (.region [(.mk (Option.some 17) (.bin .lss (.tmp 16) (.tmp 15)) Option.none)]) (.seq (.cond (.tmp 17) .skip (.exit 2)) (.seq
  (.block 3 (.seq (.region [(.mk (Option.some 18) (.atSlice 1 (.tmp 14) (.tmp 16)) Option.none), (.mk (Option.some 19) (.load 1 Bool.false (.tmp 18)) Option.none), (.mk
  (Option.some 7) (.mv (.tmp 19)) Option.none)]) (.seq (.region [(.mk (Option.some 20) (.mv (.tmp 3)) Option.none), (.mk (Option.some 21) (.mv (.tmp 7)) Option.none), (.mk
  (Option.some 22) (.conv .u32 (.tmp 21)) Option.none), (.mk (Option.some 23) (.bin .xor (.tmp 20) (.tmp 22)) Option.none), (.mk (Option.some 3) (.mv (.tmp 23)) Option.none)])
  (.seq (.region [(.mk (Option.some 24) (.mv (.const (.int .i64 0))) Option.none)]) (.block 4 (.loop (.seq (.region [(.mk (Option.some 25) (.bin .lss (.tmp 24) (.const (.int .i64
  8))) Option.none)]) (.seq (.cond (.tmp 25) .skip (.exit 4)) (.seq (.block 5 (.seq (.region [(.mk (Option.some 26) (.mv (.tmp 3)) Option.none), (.mk (Option.some 27) (.bin .and
  (.tmp 26) (.const (.int .u32 1))) Option.none), (.mk (Option.some 28) (.bin .eql (.tmp 27) (.const (.int .u32 1))) Option.none)]) (.cond (.tmp 28) (.region [(.mk (Option.some 29)
  (.mv (.tmp 3)) Option.none), (.mk (Option.some 30) (.bin .shr (.tmp 29) (.const (.int .u64 1))) Option.none), (.mk (Option.some 31) (.bin .xor (.tmp 30) (.const (.int .u32
  2197175160))) Option.none), (.mk (Option.some 3) (.mv (.tmp 31)) Option.none)]) (.region [(.mk (Option.some 32) (.mv (.tmp 3)) Option.none), (.mk (Option.some 33) (.bin .shr
  (.tmp 32) (.const (.int .u64 1))) Option.none), (.mk (Option.some 3) (.mv (.tmp 33)) Option.none)])))) (.region [(.mk (Option.some 34) (.bin .add (.tmp 24) (.const (.int .i64
  1))) Option.none), (.mk (Option.some 24) (.mv (.tmp 34)) Option.none)])))))))))) (.region [(.mk (Option.some 35) (.bin .add (.tmp 16) (.const (.int .i64 1))) Option.none), (.mk
  (Option.some 16) (.mv (.tmp 35)) Option.none)]))))))))) (.region [(.mk (Option.some 36) (.bin .add (.tmp 10) (.const (.int .i64 1))) Option.none), (.mk (Option.some 10) (.mv
  (.tmp 36)) Option.none)]))))))) (.seq (.region [(.mk (Option.some 37) (.mv (.tmp 3)) Option.none), (.mk (Option.some 38) (.un .xor (.tmp 37)) Option.none), (.mk (Option.some 2)
  (.mv (.tmp 38)) Option.none)]) .ret)))) 39 [(.tmp 2)])
def a266 : AFn :=
  (.mk (.seq (.region [(.mk (Option.some 2) (.mv (.const .nilIface)) Option.none)]) (.seq (.seq (.region [(.mk (Option.some 3) (.mv (.tmp 0)) Option.none), (.mk (Option.some 4)
  (.nilCheck (.tmp 3)) Option.none), (.mk (Option.some 5) (.fieldAddr 2 (.tmp 4)) Option.none), (.mk (Option.some 6) (.load 1 Bool.false (.tmp 5)) Option.none), (.mk (Option.some
  7) (.bin .eql (.tmp 6) (.const (.int .i64 0))) Option.none)]) (.cond (.tmp 7) (.seq (.region [(.mk (Option.some 8) (.mv (.tmp 0)) Option.none), (.mk (Option.some 9) (.nilCheck
  (.tmp 8)) Option.none), (.mk (Option.some 10) (.fieldAddr 3 (.tmp 9)) Option.none), (.mk Option.none (.store 1 (.tmp 10) (.const (.bool Bool.true))) Option.none)]) (.seq (.region
  [(.mk (Option.some 11) (.call 90 [(.const (.int .i64 8))]) Option.none), (.mk (Option.some 2) (.mv (.tmp 11)) Option.none)]) .ret)) .skip)) (.seq (.seq (.region [(.mk
  (Option.some 12) (.mv (.tmp 0)) Option.none), (.mk (Option.some 13) (.nilCheck (.tmp 12)) Option.none), (.mk (Option.some 14) (.fieldAddr 2 (.tmp 13)) Option.none), (.mk
  (Option.some 15) (.load 1 Bool.false (.tmp 14)) Option.none), (.mk (Option.some 16) (.bin .gtr (.tmp 15) (.const (.int .i64 0))) Option.none)]) (.cond (.tmp 16) (.region [(.mk
  (Option.some 17) (.mv (.tmp 0)) Option.none), (.mk (Option.some 18) (.nilCheck (.tmp 17)) Option.none), (.mk (Option.some 19) (.fieldAddr 2 (.tmp 18)) Option.none), (.mk
  (Option.some 20) (.load 1 Bool.false (.tmp 19)) Option.none), (.mk (Option.some 21) (.bin .sub (.tmp 20) (.const (.int .i64 1))) Option.none), (.mk (Option.some 22) (.nilCheck
  (.tmp 17)) Option.none), (.mk (Option.some 23) (.fieldAddr 2 (.tmp 22)) Option.none), (.mk Option.none (.store 1 (.tmp 23) (.tmp 21)) Option.none)]) .skip)) (.seq (.region [(.mk
  (Option.some 2) (.mv (.const .nilIface)) Option.none)]) .ret)))) 24 [(.tmp 2)])
def a278 : AFn :=
  (.mk (.seq (.region [(.mk (Option.some 8) (.mv (.const (.bool Bool.true))) Option.none)]) (.seq (.region [(.mk (Option.some 9) (.mv (.const (.bool Bool.true))) Option.none)])
  (.block 0 (.loop (.block 1 (.seq (.region [(.mk (Option.some 19) (.mv (.tmp 2)) Option.none), (.mk (Option.some 20) (.mv (.tmp 1)) Option.none), (.mk (Option.some 21) (.bin .sub
  (.tmp 19) (.tmp 20)) Option.none), (.mk (Option.some 10) (.mv (.tmp 21)) Option.none)]) (.seq (.seq (.region [(.mk (Option.some 22) (.mv (.tmp 10)) Option.none), (.mk
  (Option.some 23) (.bin .leq (.tmp 22) (.const (.int .i64 12))) Option.none)]) (.cond (.tmp 23) (.seq (.region [(.mk (Option.some 24) (.mv (.tmp 0)) Option.none), (.mk
  (Option.some 25) (.mv (.tmp 1)) Option.none), (.mk (Option.some 26) (.mv (.tmp 2)) Option.none), (.mk (Option.some 27) (.call 355 [(.tmp 24), (.tmp 25), (.tmp 26)])
  Option.none)]) .ret) .skip)) (.seq (.seq (.region [(.mk (Option.some 28) (.mv (.tmp 3)) Option.none), (.mk (Option.some 29) (.bin .eql (.tmp 28) (.const (.int .i64 0)))
  Option.none)]) (.cond (.tmp 29) (.seq (.region [(.mk (Option.some 30) (.mv (.tmp 0)) Option.none), (.mk (Option.some 31) (.mv (.tmp 1)) Option.none), (.mk (Option.some 32) (.mv
  (.tmp 2)) Option.none), (.mk (Option.some 33) (.call 356 [(.tmp 30), (.tmp 31), (.tmp 32)]) Option.none)]) .ret) .skip)) (.seq (.seq (.region [(.mk (Option.some 34) (.mv (.tmp
  8)) Option.none), (.mk (Option.some 35) (.un .not (.tmp 34)) Option.none)]) (.cond (.tmp 35) (.seq (.region [(.mk (Option.some 36) (.mv (.tmp 0)) Option.none), (.mk (Option.some
  37) (.mv (.tmp 1)) Option.none), (.mk (Option.some 38) (.mv (.tmp 2)) Option.none), (.mk (Option.some 39) (.call 357 [(.tmp 36), (.tmp 37), (.tmp 38)]) Option.none)]) (.region
  [(.mk (Option.some 40) (.mv (.tmp 3)) Option.none), (.mk (Option.some 41) (.bin .sub (.tmp 40) (.const (.int .i64 1))) Option.none), (.mk (Option.some 3) (.mv (.tmp 41))
  Option.none)])) .skip)) (.seq (.region [(.mk (Option.some 43) (.mv (.tmp 0)) Option.none), (.mk (Option.some 44) (.mv (.tmp 1)) Option.none), (.mk (Option.some 45) (.mv (.tmp 2))
  Option.none), (.mk (Option.some 46) (.call 358 [(.tmp 43), (.tmp 44), (.tmp 45)]) Option.none), (.mk (Option.some 42) (.mv (.tmp 46)) Option.none), (.mk (Option.some 47)
  (.extract (.tmp 42) 0) Option.none), (.mk (Option.some 48) (.extract (.tmp 42) 1) Option.none), (.mk (Option.some 11) (.mv (.tmp 47)) Option.none), (.mk (Option.some 12) (.mv
  (.tmp 48)) Option.none)]) (.seq (.seq (.region [(.mk (Option.some 49) (.mv (.tmp 12)) Option.none), (.mk (Option.some 50) (.bin .eql (.tmp 49) (.const (.int .i64 2)))
  Option.none)]) (.cond (.tmp 50) (.seq (.region [(.mk (Option.some 51) (.mv (.tmp 0)) Option.none), (.mk (Option.some 52) (.mv (.tmp 1)) Option.none), (.mk (Option.some 53) (.mv
  (.tmp 2)) Option.none), (.mk (Option.some 54) (.call 359 [(.tmp 51), (.tmp 52), (.tmp 53)]) Option.none)]) (.seq (.region [(.mk (Option.some 55) (.mv (.tmp 2)) Option.none), (.mk
  (Option.some 56) (.bin .sub (.tmp 55) (.const (.int .i64 1))) Option.none), (.mk (Option.some 57) (.mv (.tmp 11)) Option.none), (.mk (Option.some 58) (.mv (.tmp 1)) Option.none),
  (.mk (Option.some 59) (.bin .sub (.tmp 57) (.tmp 58)) Option.none), (.mk (Option.some 60) (.bin .sub (.tmp 56) (.tmp 59)) Option.none), (.mk (Option.some 11) (.mv (.tmp 60))
  Option.none)]) (.region [(.mk (Option.some 12) (.mv (.const (.int .i64 1))) Option.none)]))) .skip)) (.seq (.seq (.region [(.mk (Option.some 61) (.mv (.tmp 8)) Option.none), (.mk
  (Option.some 62) (.mv (.tmp 61)) Option.none), (.mk (Option.some 63) (.mv (.tmp 9)) (Option.some (62, Bool.true))), (.mk (Option.some 64) (.pick (.tmp 62) (.tmp 63) (.const
  (.bool Bool.false))) Option.none), (.mk (Option.some 65) (.mv (.tmp 64)) Option.none), (.mk (Option.some 66) (.mv (.tmp 12)) (Option.some (65, Bool.true))), (.mk (Option.some 67)
  (.bin .eql (.tmp 66) (.const (.int .i64 1))) (Option.some (65, Bool.true))), (.mk (Option.some 68) (.pick (.tmp 65) (.tmp 67) (.const (.bool Bool.false))) Option.none)]) (.cond
  (.tmp 68) (.seq (.region [(.mk (Option.some 69) (.mv (.tmp 0)) Option.none), (.mk (Option.some 70) (.mv (.tmp 1)) Option.none), (.mk (Option.some 71) (.mv (.tmp 2)) Option.none),
  (.mk (Option.some 72) (.call 360 [(.tmp 69), (.tmp 70), (.tmp 71)]) Option.none)]) (.cond (.tmp 72) .ret .skip)) .skip)) (.seq (.seq (.draws [((.mk (Option.some 73) (.mv (.tmp
  1)) Option.none), (0, 12)), ((.mk (Option.some 74) (.bin .gtr (.tmp 73) (.const (.int .i64 0))) Option.none), (0, 12)), ((.mk (Option.some 75) (.mv (.tmp 74)) Option.none), (0,
  12)), ((.mk (Option.some 76) (.mv (.tmp 0)) (Option.some (75, Bool.true))), (0, 12)), ((.mk (Option.some 77) (.mv (.tmp 1)) (Option.some (75, Bool.true))), (0, 12)), ((.mk
  (Option.some 78) (.bin .sub (.tmp 77) (.const (.int .i64 1))) (Option.some (75, Bool.true))), (0, 12)), ((.mk (Option.some 79) (.atSlice 1 (.tmp 76) (.tmp 78)) (Option.some (75,
  Bool.true))), (0, 12)), ((.mk (Option.some 80) (.load 1 Bool.false (.tmp 79)) (Option.some (75, Bool.true))), (0, 12)), ((.mk (Option.some 81) (.mv (.tmp 0)) (Option.some (75,
  Bool.true))), (0, 12)), ((.mk (Option.some 82) (.mv (.tmp 11)) (Option.some (75, Bool.true))), (0, 12)), ((.mk (Option.some 83) (.atSlice 1 (.tmp 81) (.tmp 82)) (Option.some (75,
  Bool.true))), (0, 12)), ((.mk (Option.some 84) (.load 1 Bool.false (.tmp 83)) (Option.some (75, Bool.true))), (0, 12)), ((.mk (Option.some 85) (.call 361 [(.tmp 80), (.tmp 84)])
  (Option.some (75, Bool.true))), (0, 15)), ((.mk (Option.some 86) (.un .not (.tmp 85)) (Option.some (75, Bool.true))), (13, 15)), ((.mk (Option.some 87) (.pick (.tmp 75) (.tmp 86)
  (.const (.bool Bool.false))) Option.none), (13, 15))]) (.cond (.tmp 87) (.seq (.region [(.mk (Option.some 88) (.mv (.tmp 0)) Option.none), (.mk (Option.some 89) (.mv (.tmp 1))
  Option.none), (.mk (Option.some 90) (.mv (.tmp 2)) Option.none), (.mk (Option.some 91) (.mv (.tmp 11)) Option.none), (.mk (Option.some 92) (.call 362 [(.tmp 88), (.tmp 89), (.tmp
  90), (.tmp 91)]) Option.none), (.mk (Option.some 13) (.mv (.tmp 92)) Option.none)]) (.seq (.region [(.mk (Option.some 93) (.mv (.tmp 13)) Option.none), (.mk (Option.some 1) (.mv
  (.tmp 93)) Option.none)]) (.exit 1))) .skip)) (.seq (.region [(.mk (Option.some 95) (.mv (.tmp 0)) Option.none), (.mk (Option.some 96) (.mv (.tmp 1)) Option.none), (.mk
  (Option.some 97) (.mv (.tmp 2)) Option.none), (.mk (Option.some 98) (.mv (.tmp 11)) Option.none), (.mk (Option.some 99) (.call 363 [(.tmp 95), (.tmp 96), (.tmp 97), (.tmp 98)])
  Option.none), (.mk (Option.some 94) (.mv (.tmp 99)) Option.none), (.mk (Option.some 100) (.extract (.tmp 94) 0) Option.none), (.mk (Option.some 101) (.extract (.tmp 94) 1)
  Option.none), (.mk (Option.some 14) (.mv (.tmp 100)) Option.none), (.mk (Option.some 15) (.mv (.tmp 101)) Option.none)]) (.seq (.region [(.mk (Option.some 102) (.mv (.tmp 15))
  Option.none), (.mk (Option.some 9) (.mv (.tmp 102)) Option.none)]) (.seq (.region [(.mk (Option.some 103) (.mv (.tmp 14)) Option.none), (.mk (Option.some 104) (.mv (.tmp 1))
  Option.none), (.mk (Option.some 105) (.bin .sub (.tmp 103) (.tmp 104)) Option.none), (.mk (Option.some 106) (.mv (.tmp 2)) Option.none), (.mk (Option.some 107) (.mv (.tmp 14))
  Option.none), (.mk (Option.some 108) (.bin .sub (.tmp 106) (.tmp 107)) Option.none), (.mk (Option.some 16) (.mv (.tmp 105)) Option.none), (.mk (Option.some 17) (.mv (.tmp 108))
  Option.none)]) (.seq (.region [(.mk (Option.some 109) (.mv (.tmp 10)) Option.none), (.mk (Option.some 110) (.bin .quo (.tmp 109) (.const (.int .i64 8))) Option.none), (.mk
  (Option.some 18) (.mv (.tmp 110)) Option.none)]) (.seq (.region [(.mk (Option.some 111) (.mv (.tmp 16)) Option.none), (.mk (Option.some 112) (.mv (.tmp 17)) Option.none), (.mk
  (Option.some 113) (.bin .lss (.tmp 111) (.tmp 112)) Option.none)]) (.cond (.tmp 113) (.seq (.region [(.mk (Option.some 114) (.mv (.tmp 16)) Option.none), (.mk (Option.some 115)
  (.mv (.tmp 18)) Option.none), (.mk (Option.some 116) (.bin .geq (.tmp 114) (.tmp 115)) Option.none), (.mk (Option.some 8) (.mv (.tmp 116)) Option.none)]) (.seq (.region [(.mk
  (Option.some 117) (.mv (.tmp 0)) Option.none), (.mk (Option.some 118) (.mv (.tmp 1)) Option.none), (.mk (Option.some 119) (.mv (.tmp 14)) Option.none), (.mk (Option.some 120)
  (.mv (.tmp 3)) Option.none), (.mk (Option.some 121) (.call 278 [(.tmp 117), (.tmp 118), (.tmp 119), (.tmp 120)]) Option.none)]) (.region [(.mk (Option.some 122) (.mv (.tmp 14))
  Option.none), (.mk (Option.some 123) (.bin .add (.tmp 122) (.const (.int .i64 1))) Option.none), (.mk (Option.some 1) (.mv (.tmp 123)) Option.none)]))) (.seq (.region [(.mk
  (Option.some 124) (.mv (.tmp 17)) Option.none), (.mk (Option.some 125) (.mv (.tmp 18)) Option.none), (.mk (Option.some 126) (.bin .geq (.tmp 124) (.tmp 125)) Option.none), (.mk
  (Option.some 8) (.mv (.tmp 126)) Option.none)]) (.seq (.region [(.mk (Option.some 127) (.mv (.tmp 0)) Option.none), (.mk (Option.some 128) (.mv (.tmp 14)) Option.none), (.mk
  (Option.some 129) (.bin .add (.tmp 128) (.const (.int .i64 1))) Option.none), (.mk (Option.some 130) (.mv (.tmp 2)) Option.none), (.mk (Option.some 131) (.mv (.tmp 3))
  Option.none), (.mk (Option.some 132) (.call 278 [(.tmp 127), (.tmp 129), (.tmp 130), (.tmp 131)]) Option.none)]) (.region [(.mk (Option.some 133) (.mv (.tmp 14)) Option.none),
  (.mk (Option.some 2) (.mv (.tmp 133)) Option.none)])))))))))))))))))))))) 134 [])
def a279 : AFn :=
  (.mk (.seq (.region [(.mk (Option.some 2) (.mv (.const (.bool Bool.false))) Option.none)]) (.seq (.seq (.region [(.mk (Option.some 5) (.mv (.tmp 0)) Option.none), (.mk (Option.some
  6) (.bytesOf (.tmp 5)) Option.none), (.mk (Option.some 7) (.len (.tmp 6)) Option.none), (.mk (Option.some 8) (.mv (.const (.int .i64 0))) Option.none)]) (.block 0 (.loop (.seq
  (.region [(.mk (Option.some 9) (.bin .lss (.tmp 8) (.tmp 7)) Option.none)]) (.seq (.cond (.tmp 9) .skip (.exit 0)) (.seq (.block 1 (.seq (.region [(.mk (Option.some 10) (.atSlice
  1 (.tmp 6) (.tmp 8)) Option.none), (.mk (Option.some 11) (.load 1 Bool.false (.tmp 10)) Option.none), (.mk (Option.some 4) (.mv (.tmp 11)) Option.none)]) (.seq (.region [(.mk
  (Option.some 12) (.mv (.tmp 4)) Option.none), (.mk (Option.some 13) (.bin .geq (.tmp 12) (.const (.int .u8 97))) Option.none), (.mk (Option.some 14) (.mv (.tmp 13)) Option.none),
  (.mk (Option.some 15) (.mv (.tmp 4)) (Option.some (14, Bool.true))), (.mk (Option.some 16) (.bin .leq (.tmp 15) (.const (.int .u8 122))) (Option.some (14, Bool.true))), (.mk
  (Option.some 17) (.pick (.tmp 14) (.tmp 16) (.const (.bool Bool.false))) Option.none), (.mk (Option.some 18) (.mv (.tmp 17)) Option.none), (.mk (Option.some 19) (.mv (.tmp 4))
  (Option.some (18, Bool.false))), (.mk (Option.some 20) (.bin .geq (.tmp 19) (.const (.int .u8 48))) (Option.some (18, Bool.false))), (.mk (Option.some 21) (.mv (.tmp 20))
  (Option.some (18, Bool.false))), (.mk (Option.some 22) (.mv (.tmp 4)) (Option.some (21, Bool.true))), (.mk (Option.some 23) (.bin .leq (.tmp 22) (.const (.int .u8 57)))
  (Option.some (21, Bool.true))), (.mk (Option.some 24) (.pick (.tmp 21) (.tmp 23) (.const (.bool Bool.false))) (Option.some (18, Bool.false))), (.mk (Option.some 25) (.pick (.tmp
  18) (.const (.bool Bool.true)) (.tmp 24)) Option.none), (.mk (Option.some 26) (.mv (.tmp 25)) Option.none), (.mk (Option.some 27) (.mv (.tmp 4)) (Option.some (26, Bool.false))),
  (.mk (Option.some 28) (.bin .eql (.tmp 27) (.const (.int .u8 46))) (Option.some (26, Bool.false))), (.mk (Option.some 29) (.pick (.tmp 26) (.const (.bool Bool.true)) (.tmp 28))
  Option.none), (.mk (Option.some 30) (.mv (.tmp 29)) Option.none), (.mk (Option.some 31) (.mv (.tmp 4)) (Option.some (30, Bool.false))), (.mk (Option.some 32) (.bin .eql (.tmp 31)
  (.const (.int .u8 95))) (Option.some (30, Bool.false))), (.mk (Option.some 33) (.pick (.tmp 30) (.const (.bool Bool.true)) (.tmp 32)) Option.none), (.mk (Option.some 34) (.un
  .not (.tmp 33)) Option.none)]) (.cond (.tmp 34) (.seq (.region [(.mk (Option.some 2) (.mv (.const (.bool Bool.false))) Option.none)]) .ret) .skip)))) (.region [(.mk (Option.some
  35) (.bin .add (.tmp 8) (.const (.int .i64 1))) Option.none), (.mk (Option.some 8) (.mv (.tmp 35)) Option.none)]))))))) (.seq (.region [(.mk (Option.some 36) (.mv (.tmp 0))
  Option.none), (.mk (Option.some 37) (.bin .neq (.tmp 36) (.const (.string (ByteArray.mk #[])))) Option.none), (.mk (Option.some 2) (.mv (.tmp 37)) Option.none)]) .ret))) 38
  [(.tmp 2)])
def a282 : AFn :=
  (.mk (.seq (.region [(.mk (Option.some 4) (.mv (.const .nilIface)) Option.none)]) (.seq (.block 0 (.seq (.region [(.mk (Option.some 6) (.mv (.tmp 0)) Option.none), (.mk
  (Option.some 7) (.eq .ptr Bool.false (.tmp 6) (.const (.pointer Option.none))) Option.none), (.mk (Option.some 5) (.mv (.tmp 7)) Option.none)]) (.cond (.tmp 5) (.seq (.region
  [(.mk (Option.some 8) (.call 90 [(.const (.int .i64 1))]) Option.none), (.mk (Option.some 4) (.mv (.tmp 8)) Option.none)]) .ret) (.seq (.region [(.mk (Option.some 10) (.mv (.tmp
  1)) Option.none), (.mk (Option.some 11) (.bin .lss (.tmp 10) (.const (.int .i64 0))) Option.none), (.mk (Option.some 12) (.mv (.tmp 11)) Option.none), (.mk (Option.some 13) (.mv
  (.tmp 1)) (Option.some (12, Bool.false))), (.mk (Option.some 14) (.mv (.tmp 0)) (Option.some (12, Bool.false))), (.mk (Option.some 15) (.call 87 [(.tmp 14)]) (Option.some (12,
  Bool.false))), (.mk (Option.some 16) (.bin .gtr (.tmp 13) (.tmp 15)) (Option.some (12, Bool.false))), (.mk (Option.some 17) (.pick (.tmp 12) (.const (.bool Bool.true)) (.tmp 16))
  Option.none), (.mk (Option.some 9) (.mv (.tmp 17)) Option.none)]) (.cond (.tmp 9) (.seq (.region [(.mk (Option.some 18) (.mv (.tmp 0)) Option.none), (.mk (Option.some 19) (.call
  87 [(.tmp 18)]) Option.none), (.mk (Option.some 20) (.mv (.tmp 1)) Option.none), (.mk (Option.some 21) (.call 90 [(.const (.int .i64 2))]) Option.none), (.mk (Option.some 22)
  (.call 150 [(.tmp 19), (.tmp 20), (.tmp 21)]) Option.none), (.mk (Option.some 4) (.mv (.tmp 22)) Option.none)]) .ret) (.seq (.region [(.mk (Option.some 24) (.mv (.tmp 1))
  Option.none), (.mk (Option.some 25) (.mv (.tmp 0)) Option.none), (.mk (Option.some 26) (.nilCheck (.tmp 25)) Option.none), (.mk (Option.some 27) (.fieldAddr 0 (.tmp 26))
  Option.none), (.mk (Option.some 28) (.load 1 Bool.false (.tmp 27)) Option.none), (.mk (Option.some 29) (.bin .lss (.tmp 24) (.tmp 28)) Option.none), (.mk (Option.some 23) (.mv
  (.tmp 29)) Option.none)]) (.cond (.tmp 23) (.seq (.region [(.mk (Option.some 30) (.mv (.tmp 1)) Option.none), (.mk (Option.some 31) (.call 90 [(.const (.int .i64 22))])
  Option.none), (.mk (Option.some 32) (.call 82 [(.tmp 30), (.tmp 31)]) Option.none), (.mk (Option.some 4) (.mv (.tmp 32)) Option.none)]) .ret) .skip))))))) (.seq (.region [(.mk
  (Option.some 4) (.mv (.const .nilIface)) Option.none)]) .ret))) 33 [(.tmp 4)])
def a283 : AFn :=
  (.mk (.seq (.region [(.mk (Option.some 5) (.box (.tmp 2)) Option.none), (.mk (Option.some 6) (.mv (.const (.int .i64 0))) Option.none)]) (.seq (.draws [((.mk (Option.some 8) (.mv
  (.tmp 0)) Option.none), (0, 12)), ((.mk (Option.some 9) (.nilCheck (.tmp 8)) Option.none), (0, 12)), ((.mk (Option.some 10) (.fieldAddr 1 (.tmp 9)) Option.none), (0, 12)), ((.mk
  (Option.some 11) (.load 1 Bool.false (.tmp 10)) Option.none), (0, 12)), ((.mk (Option.some 12) (.mv (.tmp 1)) Option.none), (0, 12)), ((.mk (Option.some 13) (.mv (.tmp 0))
  Option.none), (0, 12)), ((.mk (Option.some 14) (.nilCheck (.tmp 13)) Option.none), (0, 12)), ((.mk (Option.some 15) (.fieldAddr 0 (.tmp 14)) Option.none), (0, 12)), ((.mk
  (Option.some 16) (.load 1 Bool.false (.tmp 15)) Option.none), (0, 12)), ((.mk (Option.some 17) (.bin .sub (.tmp 12) (.tmp 16)) Option.none), (0, 12)), ((.mk (Option.some 18)
  (.cutSlice 1 (.tmp 11) (Option.some (.tmp 17)) Option.none Option.none) Option.none), (0, 12)), ((.mk (Option.some 19) (.mkFunc (.func 366) [] [(.tmp 5)]) Option.none), (0, 12)),
  ((.mk (Option.some 20) (.call 365 [(.tmp 18), (.tmp 19)]) Option.none), (0, 14)), ((.mk (Option.some 7) (.mv (.tmp 20)) Option.none), (13, 14))]) (.seq (.seq (.region [(.mk
  (Option.some 21) (.mv (.tmp 7)) Option.none), (.mk (Option.some 22) (.bin .lss (.tmp 21) (.const (.int .i64 0))) Option.none)]) (.cond (.tmp 22) (.seq (.region [(.mk (Option.some
  6) (.mv (.const (.int .i64 0))) Option.none)]) .ret) .skip)) (.seq (.region [(.mk (Option.some 23) (.mv (.tmp 1)) Option.none), (.mk (Option.some 24) (.mv (.tmp 7)) Option.none),
  (.mk (Option.some 25) (.bin .add (.tmp 23) (.tmp 24)) Option.none), (.mk (Option.some 26) (.bin .add (.tmp 25) (.const (.int .i64 1))) Option.none), (.mk (Option.some 6) (.mv
  (.tmp 26)) Option.none)]) .ret)))) 27 [(.tmp 6)])
def a284 : AFn :=
  (.mk (.seq (.region [(.mk (Option.some 1) (.box (.tmp 0)) Option.none), (.mk (Option.some 2) (.mv (.const .nilFunc)) Option.none)]) (.seq (.region [(.mk (Option.some 3) (.mkFunc
  (.func 369) [] [(.tmp 1)]) Option.none), (.mk (Option.some 2) (.mv (.tmp 3)) Option.none)]) .ret)) 4 [(.tmp 2)])
def a285 : AFn :=
  (.mk (.seq (.region [(.mk (Option.some 2) (.mv (.const (.slice Option.none 0 0))) Option.none)]) (.seq (.seq (.region [(.mk (Option.some 6) (.mv (.tmp 0)) Option.none), (.mk
  (Option.some 7) (.len (.tmp 6)) Option.none), (.mk (Option.some 8) (.bin .lss (.tmp 7) (.const (.int .i64 2))) Option.none)]) (.cond (.tmp 8) (.seq (.region [(.mk (Option.some 9)
  (.mv (.tmp 0)) Option.none), (.mk (Option.some 2) (.mv (.tmp 9)) Option.none)]) .ret) .skip)) (.seq (.seq (.region [(.mk (Option.some 3) (.mv (.const (.int .i64 1)))
  Option.none)]) (.block 0 (.loop (.seq (.seq (.region [(.mk (Option.some 10) (.mv (.tmp 3)) Option.none), (.mk (Option.some 11) (.mv (.tmp 0)) Option.none), (.mk (Option.some 12)
  (.len (.tmp 11)) Option.none), (.mk (Option.some 13) (.bin .lss (.tmp 10) (.tmp 12)) Option.none)]) (.cond (.tmp 13) .skip (.exit 0))) (.seq (.block 1 (.seq (.draws [((.mk
  (Option.some 16) (.mv (.tmp 0)) Option.none), (0, 10)), ((.mk (Option.some 17) (.mv (.tmp 3)) Option.none), (0, 10)), ((.mk (Option.some 18) (.atSlice 1 (.tmp 16) (.tmp 17))
  Option.none), (0, 10)), ((.mk (Option.some 19) (.load 1 Bool.false (.tmp 18)) Option.none), (0, 10)), ((.mk (Option.some 20) (.mv (.tmp 0)) Option.none), (0, 10)), ((.mk
  (Option.some 21) (.mv (.tmp 3)) Option.none), (0, 10)), ((.mk (Option.some 22) (.bin .sub (.tmp 21) (.const (.int .i64 1))) Option.none), (0, 10)), ((.mk (Option.some 23)
  (.atSlice 1 (.tmp 20) (.tmp 22)) Option.none), (0, 10)), ((.mk (Option.some 24) (.load 1 Bool.false (.tmp 23)) Option.none), (0, 10)), ((.mk (Option.some 25) (.bin .eql (.tmp 19)
  (.tmp 24)) Option.none), (0, 10))]) (.cond (.tmp 25) (.seq (.region [(.mk (Option.some 26) (.mv (.tmp 0)) Option.none), (.mk (Option.some 27) (.mv (.tmp 3)) Option.none), (.mk
  (Option.some 28) (.cutSlice 1 (.tmp 26) (Option.some (.tmp 27)) Option.none Option.none) Option.none), (.mk (Option.some 4) (.mv (.tmp 28)) Option.none)]) (.seq (.seq (.region
  [(.mk (Option.some 5) (.mv (.const (.int .i64 1))) Option.none)]) (.block 2 (.loop (.seq (.seq (.region [(.mk (Option.some 29) (.mv (.tmp 5)) Option.none), (.mk (Option.some 30)
  (.mv (.tmp 4)) Option.none), (.mk (Option.some 31) (.len (.tmp 30)) Option.none), (.mk (Option.some 32) (.bin .lss (.tmp 29) (.tmp 31)) Option.none)]) (.cond (.tmp 32) .skip
  (.exit 2))) (.seq (.block 3 (.seq (.draws [((.mk (Option.some 35) (.mv (.tmp 4)) Option.none), (0, 10)), ((.mk (Option.some 36) (.mv (.tmp 5)) Option.none), (0, 10)), ((.mk
  (Option.some 37) (.atSlice 1 (.tmp 35) (.tmp 36)) Option.none), (0, 10)), ((.mk (Option.some 38) (.load 1 Bool.false (.tmp 37)) Option.none), (0, 10)), ((.mk (Option.some 39)
  (.mv (.tmp 4)) Option.none), (0, 10)), ((.mk (Option.some 40) (.mv (.tmp 5)) Option.none), (0, 10)), ((.mk (Option.some 41) (.bin .sub (.tmp 40) (.const (.int .i64 1)))
  Option.none), (0, 10)), ((.mk (Option.some 42) (.atSlice 1 (.tmp 39) (.tmp 41)) Option.none), (0, 10)), ((.mk (Option.some 43) (.load 1 Bool.false (.tmp 42)) Option.none), (0,
  10)), ((.mk (Option.some 44) (.bin .neq (.tmp 38) (.tmp 43)) Option.none), (0, 10))]) (.cond (.tmp 44) (.seq (.region [(.mk (Option.some 45) (.mv (.tmp 0)) Option.none), (.mk
  (Option.some 46) (.mv (.tmp 3)) Option.none), (.mk (Option.some 47) (.mv (.tmp 4)) Option.none), (.mk (Option.some 48) (.mv (.tmp 5)) Option.none), (.mk (Option.some 49)
  (.atSlice 1 (.tmp 47) (.tmp 48)) Option.none), (.mk (Option.some 50) (.load 1 Bool.false (.tmp 49)) Option.none), (.mk (Option.some 51) (.atSlice 1 (.tmp 45) (.tmp 46))
  Option.none), (.mk Option.none (.store 1 (.tmp 51) (.tmp 50)) Option.none)]) (.region [(.mk (Option.some 52) (.mv (.tmp 3)) Option.none), (.mk (Option.some 53) (.bin .add (.tmp
  52) (.const (.int .i64 1))) Option.none), (.mk (Option.some 3) (.mv (.tmp 53)) Option.none)])) .skip))) (.region [(.mk (Option.some 33) (.mv (.tmp 5)) Option.none), (.mk
  (Option.some 34) (.bin .add (.tmp 33) (.const (.int .i64 1))) Option.none), (.mk (Option.some 5) (.mv (.tmp 34)) Option.none)])))))) (.seq (.region [(.mk (Option.some 54) (.mv
  (.tmp 0)) Option.none), (.mk (Option.some 55) (.mv (.tmp 3)) Option.none), (.mk (Option.some 56) (.cutSlice 1 (.tmp 54) (Option.some (.tmp 55)) Option.none Option.none)
  Option.none), (.mk Option.none (.clearS [(.str [])] (.tmp 56)) Option.none)]) (.seq (.region [(.mk (Option.some 57) (.mv (.tmp 0)) Option.none), (.mk (Option.some 58) (.mv (.tmp
  3)) Option.none), (.mk (Option.some 59) (.cutSlice 1 (.tmp 57) Option.none (Option.some (.tmp 58)) Option.none) Option.none), (.mk (Option.some 2) (.mv (.tmp 59)) Option.none)])
  .ret)))) .skip))) (.region [(.mk (Option.some 14) (.mv (.tmp 3)) Option.none), (.mk (Option.some 15) (.bin .add (.tmp 14) (.const (.int .i64 1))) Option.none), (.mk (Option.some
  3) (.mv (.tmp 15)) Option.none)])))))) (.seq (.region [(.mk (Option.some 60) (.mv (.tmp 0)) Option.none), (.mk (Option.some 2) (.mv (.tmp 60)) Option.none)]) .ret)))) 61 [(.tmp
  2)])
def a287 : AFn :=
  (.mk (.seq (.region [(.mk (Option.some 6) (.mv (.const (.bool Bool.false))) Option.none)]) (.block 0 (.loop (.block 1 (.seq (.seq (.region [(.mk (Option.some 14) (.mv (.tmp 2))
  Option.none), (.mk (Option.some 15) (.mv (.tmp 14)) Option.none), (.mk (Option.some 16) (.mv (.tmp 0)) (Option.some (15, Bool.true))), (.mk (Option.some 17) (.mv (.tmp 1))
  (Option.some (15, Bool.true))), (.mk (Option.some 18) (.eq (.dyn [15, 17, 22, 24, 25, 26, 54, 58, 66, 77, 79, 85, 100, 103, 105, 122, 150, 155, 182, 198, 229, 245, 251, 327, 343,
  349, 352, 431, 483, 511]) Bool.false (.tmp 16) (.tmp 17)) (Option.some (15, Bool.true))), (.mk (Option.some 19) (.pick (.tmp 15) (.tmp 18) (.const (.bool Bool.false)))
  Option.none)]) (.cond (.tmp 19) (.seq (.region [(.mk (Option.some 6) (.mv (.const (.bool Bool.true))) Option.none)]) .ret) .skip)) (.seq (.seq (.region [(.mk (Option.some 21)
  (.mv (.tmp 0)) Option.none), (.mk (Option.some 22) (.isIface [229] [8, 10, 11, 14, 15, 16, 17, 19, 22, 24, 25, 26, 32, 54, 58, 66, 77, 79, 85, 100, 103, 105, 122, 138, 150, 155,
  182, 198, 235, 236, 245, 251, 253, 254, 255, 271, 327, 343, 349, 350, 351, 352, 353, 354, 359, 360, 361, 366, 429, 430, 431, 483, 511] Bool.true (.tmp 21)) Option.none), (.mk
  (Option.some 20) (.mv (.tmp 22)) Option.none), (.mk (Option.some 23) (.extract (.tmp 20) 0) Option.none), (.mk (Option.some 24) (.extract (.tmp 20) 1) Option.none), (.mk
  (Option.some 7) (.mv (.tmp 23)) Option.none), (.mk (Option.some 8) (.mv (.tmp 24)) Option.none)]) (.seq (.region [(.mk (Option.some 25) (.mv (.tmp 8)) Option.none), (.mk
  (Option.some 26) (.mv (.tmp 25)) Option.none), (.mk (Option.some 27) (.mv (.tmp 7)) (Option.some (26, Bool.true))), (.mk (Option.some 28) (.mv (.tmp 1)) (Option.some (26,
  Bool.true))), (.mk (Option.some 29) (.invoke (.tmp 27) [(229, (439, Option.none))] [(.tmp 28)]) (Option.some (26, Bool.true))), (.mk (Option.some 30) (.pick (.tmp 26) (.tmp 29)
  (.const (.bool Bool.false))) Option.none)]) (.cond (.tmp 30) (.seq (.region [(.mk (Option.some 6) (.mv (.const (.bool Bool.true))) Option.none)]) .ret) .skip))) (.seq (.region
  [(.mk (Option.some 31) (.mv (.tmp 0)) Option.none)]) (.block 2 (.seq (.region [(.mk (Option.some 32) (.isIface [251, 253, 254, 255, 349, 350, 351, 352, 353, 354] [8, 10, 11, 14,
  15, 16, 17, 19, 22, 24, 25, 26, 32, 54, 58, 66, 77, 79, 85, 100, 103, 105, 122, 138, 150, 155, 182, 198, 229, 235, 236, 245, 271, 327, 343, 359, 360, 361, 366, 429, 430, 431,
  483, 511] Bool.true (.tmp 31)) Option.none), (.mk (Option.some 33) (.extract (.tmp 32) 1) Option.none), (.mk (Option.some 34) (.extract (.tmp 32) 0) Option.none)]) (.cond (.tmp
  33) (.seq (.region [(.mk (Option.some 9) (.mv (.tmp 34)) Option.none)]) (.seq (.region [(.mk (Option.some 35) (.mv (.tmp 9)) Option.none), (.mk (Option.some 36) (.invoke (.tmp
  35) [(251, (441, (Option.some (0, (1, Bool.true))))), (253, (441, Option.none)), (349, (441, (Option.some (0, (1, Bool.true))))), (352, (441, (Option.some (0, (1, Bool.true)))))]
  []) Option.none), (.mk (Option.some 0) (.mv (.tmp 36)) Option.none)]) (.seq (.region [(.mk (Option.some 37) (.mv (.tmp 0)) Option.none), (.mk (Option.some 38) (.eq (.iface
  Bool.true) Bool.false (.tmp 37) (.const .nilIface)) Option.none)]) (.cond (.tmp 38) (.seq (.region [(.mk (Option.some 6) (.mv (.const (.bool Bool.false))) Option.none)]) .ret)
  .skip)))) (.seq (.region [(.mk (Option.some 39) (.isIface [] [8, 10, 11, 14, 15, 16, 17, 19, 22, 24, 25, 26, 32, 54, 58, 66, 77, 79, 85, 100, 103, 105, 122, 138, 150, 155, 182,
  198, 229, 235, 236, 245, 251, 253, 254, 255, 271, 327, 343, 349, 350, 351, 352, 353, 354, 359, 360, 361, 366, 429, 430, 431, 483, 511] Bool.true (.tmp 31)) Option.none), (.mk
  (Option.some 40) (.extract (.tmp 39) 1) Option.none), (.mk (Option.some 41) (.extract (.tmp 39) 0) Option.none)]) (.cond (.tmp 40) (.seq (.region [(.mk (Option.some 10) (.mv
  (.tmp 41)) Option.none)]) (.seq (.seq (.region [(.mk (Option.some 42) (.mv (.tmp 10)) Option.none), (.mk (Option.some 43) (.invoke (.tmp 42) [(251, (441, (Option.some (0, (1,
  Bool.true))))), (253, (441, Option.none)), (349, (441, (Option.some (0, (1, Bool.true))))), (352, (441, (Option.some (0, (1, Bool.true)))))] []) Option.none), (.mk (Option.some
  44) (.len (.tmp 43)) Option.none), (.mk (Option.some 45) (.mv (.const (.int .i64 0))) Option.none)]) (.block 3 (.loop (.seq (.region [(.mk (Option.some 46) (.bin .lss (.tmp 45)
  (.tmp 44)) Option.none)]) (.seq (.cond (.tmp 46) .skip (.exit 3)) (.seq (.block 4 (.seq (.region [(.mk (Option.some 47) (.atSlice 1 (.tmp 43) (.tmp 45)) Option.none), (.mk
  (Option.some 48) (.load 1 Bool.false (.tmp 47)) Option.none), (.mk (Option.some 12) (.mv (.tmp 48)) Option.none)]) (.seq (.region [(.mk (Option.some 49) (.mv (.tmp 12))
  Option.none), (.mk (Option.some 50) (.mv (.tmp 1)) Option.none), (.mk (Option.some 51) (.mv (.tmp 2)) Option.none), (.mk (Option.some 52) (.call 287 [(.tmp 49), (.tmp 50), (.tmp
  51)]) Option.none)]) (.cond (.tmp 52) (.seq (.region [(.mk (Option.some 6) (.mv (.const (.bool Bool.true))) Option.none)]) .ret) .skip)))) (.region [(.mk (Option.some 53) (.bin
  .add (.tmp 45) (.const (.int .i64 1))) Option.none), (.mk (Option.some 45) (.mv (.tmp 53)) Option.none)]))))))) (.seq (.region [(.mk (Option.some 6) (.mv (.const (.bool
  Bool.false))) Option.none)]) .ret))) (.seq (.region [(.mk (Option.some 13) (.mv (.tmp 31)) Option.none)]) (.seq (.region [(.mk (Option.some 6) (.mv (.const (.bool Bool.false)))
  Option.none)]) .ret)))))))))))))) 54 [(.tmp 6)])
def a288 : AFn :=
  (.mk (.seq (.region [(.mk (Option.some 4) (.mv (.const (.int .i64 0))) Option.none)]) (.seq (.seq (.region [(.mk (Option.some 6) (.mv (.tmp 0)) Option.none), (.mk (Option.some 7)
  (.eq .ptr Bool.false (.tmp 6) (.const (.pointer Option.none))) Option.none), (.mk (Option.some 8) (.mv (.tmp 7)) Option.none), (.mk (Option.some 9) (.mv (.tmp 1)) (Option.some
  (8, Bool.false))), (.mk (Option.some 10) (.mv (.tmp 0)) (Option.some (8, Bool.false))), (.mk (Option.some 11) (.nilCheck (.tmp 10)) (Option.some (8, Bool.false))), (.mk
  (Option.some 12) (.fieldAddr 0 (.tmp 11)) (Option.some (8, Bool.false))), (.mk (Option.some 13) (.load 1 Bool.false (.tmp 12)) (Option.some (8, Bool.false))), (.mk (Option.some
  14) (.bin .leq (.tmp 9) (.tmp 13)) (Option.some (8, Bool.false))), (.mk (Option.some 15) (.pick (.tmp 8) (.const (.bool Bool.true)) (.tmp 14)) Option.none)]) (.cond (.tmp 15)
  (.seq (.region [(.mk (Option.some 4) (.mv (.const (.int .i64 0))) Option.none)]) .ret) .skip)) (.seq (.draws [((.mk (Option.some 16) (.mv (.tmp 1)) Option.none), (0, 11)), ((.mk
  (Option.some 17) (.bin .sub (.tmp 16) (.const (.int .i64 1))) Option.none), (0, 11)), ((.mk (Option.some 18) (.mv (.tmp 0)) Option.none), (0, 3)), ((.mk (Option.some 19) (.call
  87 [(.tmp 18)]) Option.none), (0, 11)), ((.mk (Option.some 20) (.minmax Bool.false [(.tmp 17), (.tmp 19)]) Option.none), (4, 11)), ((.mk (Option.some 21) (.mv (.tmp 0))
  Option.none), (0, 11)), ((.mk (Option.some 22) (.nilCheck (.tmp 21)) Option.none), (0, 11)), ((.mk (Option.some 23) (.fieldAddr 0 (.tmp 22)) Option.none), (0, 11)), ((.mk
  (Option.some 24) (.load 1 Bool.false (.tmp 23)) Option.none), (0, 11)), ((.mk (Option.some 25) (.bin .sub (.tmp 20) (.tmp 24)) Option.none), (4, 11)), ((.mk (Option.some 5) (.mv
  (.tmp 25)) Option.none), (4, 11))]) (.seq (.seq (.region [(.mk (Option.some 26) (.mv (.tmp 5)) Option.none), (.mk (Option.some 27) (.bin .leq (.tmp 26) (.const (.int .i64 0)))
  Option.none)]) (.cond (.tmp 27) (.seq (.region [(.mk (Option.some 4) (.mv (.const (.int .i64 0))) Option.none)]) .ret) .skip)) (.seq (.region [(.mk (Option.some 28) (.mv (.tmp
  0)) Option.none), (.mk (Option.some 29) (.mv (.tmp 0)) Option.none), (.mk (Option.some 30) (.nilCheck (.tmp 29)) Option.none), (.mk (Option.some 31) (.fieldAddr 1 (.tmp 30))
  Option.none), (.mk (Option.some 32) (.load 1 Bool.false (.tmp 31)) Option.none), (.mk (Option.some 33) (.mv (.tmp 5)) Option.none), (.mk (Option.some 34) (.cutSlice 1 (.tmp 32)
  (Option.some (.tmp 33)) Option.none Option.none) Option.none), (.mk (Option.some 35) (.call 370 [(.tmp 34)]) Option.none), (.mk (Option.some 36) (.nilCheck (.tmp 28))
  Option.none), (.mk (Option.some 37) (.fieldAddr 1 (.tmp 36)) Option.none), (.mk Option.none (.store 1 (.tmp 37) (.tmp 35)) Option.none)]) (.seq (.region [(.mk (Option.some 38)
  (.mv (.tmp 0)) Option.none), (.mk (Option.some 39) (.nilCheck (.tmp 38)) Option.none), (.mk (Option.some 40) (.fieldAddr 0 (.tmp 39)) Option.none), (.mk (Option.some 41) (.load 1
  Bool.false (.tmp 40)) Option.none), (.mk (Option.some 42) (.mv (.tmp 5)) Option.none), (.mk (Option.some 43) (.bin .add (.tmp 41) (.tmp 42)) Option.none), (.mk (Option.some 44)
  (.nilCheck (.tmp 38)) Option.none), (.mk (Option.some 45) (.fieldAddr 0 (.tmp 44)) Option.none), (.mk Option.none (.store 1 (.tmp 45) (.tmp 43)) Option.none)]) (.seq (.region
  [(.mk (Option.some 46) (.mv (.tmp 5)) Option.none), (.mk (Option.some 4) (.mv (.tmp 46)) Option.none)]) .ret))))))) 47 [(.tmp 4)])
def a297 : AFn :=
  (.mk (.seq (.region [(.mk (Option.some 4) (.mv (.const (.int .i64 0))) Option.none), (.mk (Option.some 5) (.mv (.const (.bool Bool.false))) Option.none)]) (.seq (.region [(.mk
  (Option.some 6) (.mv (.tmp 0)) Option.none), (.mk (Option.some 7) (.nilCheck (.tmp 6)) Option.none), (.mk (Option.some 8) (.fieldAddr 0 (.tmp 7)) Option.none), (.mk (Option.some
  9) (.load 1 Bool.false (.tmp 8)) Option.none), (.mk (Option.some 10) (.mv (.tmp 1)) Option.none), (.mk (Option.some 11) (.call 372 [(.tmp 9), (.tmp 10), (.func 373)])
  Option.none), (.mk (Option.some 12) (.extract (.tmp 11) 0) Option.none), (.mk (Option.some 13) (.extract (.tmp 11) 1) Option.none), (.mk (Option.some 4) (.mv (.tmp 12))
  Option.none), (.mk (Option.some 5) (.mv (.tmp 13)) Option.none)]) .ret)) 14 [(.tmp 4), (.tmp 5)])
def a298 : AFn :=
  (.mk (.seq (.region [(.mk (Option.some 6) (.mv (.const (.slice Option.none 0 0))) Option.none)]) (.seq (.region [(.mk (Option.some 10) (.mv (.tmp 0)) Option.none), (.mk
  (Option.some 11) (.mv (.tmp 1)) Option.none), (.mk (Option.some 12) (.cutSlice 2 (.tmp 10) (Option.some (.tmp 11)) Option.none Option.none) Option.none)]) (.seq (.region [(.mk
  (Option.some 13) (.mv (.tmp 2)) Option.none), (.mk (Option.some 14) (.len (.tmp 13)) Option.none), (.mk (Option.some 7) (.mv (.tmp 14)) Option.none)]) (.seq (.seq (.region [(.mk
  (Option.some 15) (.mv (.tmp 7)) Option.none), (.mk (Option.some 16) (.bin .eql (.tmp 15) (.const (.int .i64 0))) Option.none)]) (.cond (.tmp 16) (.seq (.region [(.mk (Option.some
  17) (.mv (.tmp 0)) Option.none), (.mk (Option.some 6) (.mv (.tmp 17)) Option.none)]) .ret) .skip)) (.seq (.region [(.mk (Option.some 18) (.mv (.tmp 0)) Option.none), (.mk
  (Option.some 19) (.len (.tmp 18)) Option.none), (.mk (Option.some 8) (.mv (.tmp 19)) Option.none)]) (.seq (.seq (.region [(.mk (Option.some 20) (.mv (.tmp 1)) Option.none), (.mk
  (Option.some 21) (.mv (.tmp 8)) Option.none), (.mk (Option.some 22) (.bin .eql (.tmp 20) (.tmp 21)) Option.none)]) (.cond (.tmp 22) (.seq (.region [(.mk (Option.some 23) (.mv
  (.tmp 0)) Option.none), (.mk (Option.some 24) (.mv (.tmp 2)) Option.none), (.mk (Option.some 25) (.append Bool.false 2 24 (.tmp 23) (.tmp 24)) Option.none), (.mk (Option.some 6)
  (.mv (.tmp 25)) Option.none)]) .ret) .skip)) (.seq (.seq (.region [(.mk (Option.some 26) (.mv (.tmp 8)) Option.none), (.mk (Option.some 27) (.mv (.tmp 7)) Option.none), (.mk
  (Option.some 28) (.bin .add (.tmp 26) (.tmp 27)) Option.none), (.mk (Option.some 29) (.mv (.tmp 0)) Option.none), (.mk (Option.some 30) (.cap (.tmp 29)) Option.none), (.mk
  (Option.some 31) (.bin .gtr (.tmp 28) (.tmp 30)) Option.none)]) (.cond (.tmp 31) (.seq (.region [(.mk (Option.some 32) (.mv (.tmp 0)) Option.none), (.mk (Option.some 33) (.mv
  (.tmp 1)) Option.none), (.mk (Option.some 34) (.cutSlice 2 (.tmp 32) Option.none (Option.some (.tmp 33)) Option.none) Option.none), (.mk (Option.some 35) (.mv (.tmp 8))
  Option.none), (.mk (Option.some 36) (.mv (.tmp 7)) Option.none), (.mk (Option.some 37) (.bin .add (.tmp 35) (.tmp 36)) Option.none), (.mk (Option.some 38) (.mv (.tmp 1))
  Option.none), (.mk (Option.some 39) (.bin .sub (.tmp 37) (.tmp 38)) Option.none), (.mk (Option.some 40) (.appendZ 2 24 [(.str []), (.int .i64 0)] (.tmp 34) (.tmp 39))
  Option.none), (.mk (Option.some 9) (.mv (.tmp 40)) Option.none)]) (.seq (.region [(.mk (Option.some 41) (.mv (.tmp 9)) Option.none), (.mk (Option.some 42) (.mv (.tmp 1))
  Option.none), (.mk (Option.some 43) (.cutSlice 2 (.tmp 41) (Option.some (.tmp 42)) Option.none Option.none) Option.none), (.mk (Option.some 44) (.mv (.tmp 2)) Option.none), (.mk
  (Option.some 45) (.extract (.const (.bool Bool.false)) 0) Option.none)]) (.seq (.draws [((.mk (Option.some 46) (.mv (.tmp 9)) Option.none), (0, 9)), ((.mk (Option.some 47) (.mv
  (.tmp 1)) Option.none), (0, 9)), ((.mk (Option.some 48) (.mv (.tmp 7)) Option.none), (0, 9)), ((.mk (Option.some 49) (.bin .add (.tmp 47) (.tmp 48)) Option.none), (0, 9)), ((.mk
  (Option.some 50) (.cutSlice 2 (.tmp 46) (Option.some (.tmp 49)) Option.none Option.none) Option.none), (0, 9)), ((.mk (Option.some 51) (.mv (.tmp 0)) Option.none), (0, 9)), ((.mk
  (Option.some 52) (.mv (.tmp 1)) Option.none), (0, 9)), ((.mk (Option.some 53) (.cutSlice 2 (.tmp 51) (Option.some (.tmp 52)) Option.none Option.none) Option.none), (0, 9)), ((.mk
  (Option.some 54) (.extract (.const (.bool Bool.false)) 0) Option.none), (0, 9))]) (.seq (.region [(.mk (Option.some 55) (.mv (.tmp 9)) Option.none), (.mk (Option.some 6) (.mv
  (.tmp 55)) Option.none)]) .ret)))) .skip)) (.seq (.region [(.mk (Option.some 56) (.mv (.tmp 0)) Option.none), (.mk (Option.some 57) (.mv (.tmp 8)) Option.none), (.mk (Option.some
  58) (.mv (.tmp 7)) Option.none), (.mk (Option.some 59) (.bin .add (.tmp 57) (.tmp 58)) Option.none), (.mk (Option.some 60) (.cutSlice 2 (.tmp 56) Option.none (Option.some (.tmp
  59)) Option.none) Option.none), (.mk (Option.some 0) (.mv (.tmp 60)) Option.none)]) (.seq (.seq (.region [(.mk (Option.some 61) (.mv (.tmp 2)) Option.none), (.mk (Option.some 62)
  (.mv (.tmp 0)) Option.none), (.mk (Option.some 63) (.mv (.tmp 1)) Option.none), (.mk (Option.some 64) (.mv (.tmp 7)) Option.none), (.mk (Option.some 65) (.bin .add (.tmp 63)
  (.tmp 64)) Option.none), (.mk (Option.some 66) (.cutSlice 2 (.tmp 62) (Option.some (.tmp 65)) Option.none Option.none) Option.none), (.mk (Option.some 67) (.call 375 [(.tmp 61),
  (.tmp 66)]) Option.none), (.mk (Option.some 68) (.un .not (.tmp 67)) Option.none)]) (.cond (.tmp 68) (.seq (.draws [((.mk (Option.some 69) (.mv (.tmp 0)) Option.none), (0, 9)),
  ((.mk (Option.some 70) (.mv (.tmp 1)) Option.none), (0, 9)), ((.mk (Option.some 71) (.mv (.tmp 7)) Option.none), (0, 9)), ((.mk (Option.some 72) (.bin .add (.tmp 70) (.tmp 71))
  Option.none), (0, 9)), ((.mk (Option.some 73) (.cutSlice 2 (.tmp 69) (Option.some (.tmp 72)) Option.none Option.none) Option.none), (0, 9)), ((.mk (Option.some 74) (.mv (.tmp 0))
  Option.none), (0, 9)), ((.mk (Option.some 75) (.mv (.tmp 1)) Option.none), (0, 9)), ((.mk (Option.some 76) (.cutSlice 2 (.tmp 74) (Option.some (.tmp 75)) Option.none Option.none)
  Option.none), (0, 9)), ((.mk (Option.some 77) (.extract (.const (.bool Bool.false)) 0) Option.none), (0, 9))]) (.seq (.region [(.mk (Option.some 78) (.mv (.tmp 0)) Option.none),
  (.mk (Option.some 79) (.mv (.tmp 1)) Option.none), (.mk (Option.some 80) (.cutSlice 2 (.tmp 78) (Option.some (.tmp 79)) Option.none Option.none) Option.none), (.mk (Option.some
  81) (.mv (.tmp 2)) Option.none), (.mk (Option.some 82) (.extract (.const (.bool Bool.false)) 0) Option.none)]) (.seq (.region [(.mk (Option.some 83) (.mv (.tmp 0)) Option.none),
  (.mk (Option.some 6) (.mv (.tmp 83)) Option.none)]) .ret))) .skip)) (.seq (.region [(.mk (Option.some 84) (.mv (.tmp 0)) Option.none), (.mk (Option.some 85) (.mv (.tmp 8))
  Option.none), (.mk (Option.some 86) (.cutSlice 2 (.tmp 84) (Option.some (.tmp 85)) Option.none Option.none) Option.none), (.mk (Option.some 87) (.mv (.tmp 2)) Option.none), (.mk
  (Option.some 88) (.extract (.const (.bool Bool.false)) 0) Option.none)]) (.seq (.region [(.mk (Option.some 89) (.mv (.tmp 0)) Option.none), (.mk (Option.some 90) (.mv (.tmp 1))
  Option.none), (.mk (Option.some 91) (.cutSlice 2 (.tmp 89) (Option.some (.tmp 90)) Option.none Option.none) Option.none), (.mk (Option.some 92) (.mv (.tmp 7)) Option.none), (.mk
  (Option.some 93) (.call 376 [(.tmp 91), (.tmp 92)]) Option.none)]) (.seq (.region [(.mk (Option.some 94) (.mv (.tmp 0)) Option.none), (.mk (Option.some 6) (.mv (.tmp 94))
  Option.none)]) .ret)))))))))))) 95 [(.tmp 6)])
def a307 : AFn :=
  (.mk (.seq (.region [(.mk (Option.some 5) (.load 1 Bool.false (.tmp 1)) Option.none), (.mk (Option.some 6) (.len (.tmp 5)) Option.none), (.mk (Option.some 7) (.mv (.const (.int
  .i64 0))) Option.none)]) (.block 0 (.loop (.seq (.region [(.mk (Option.some 8) (.bin .lss (.tmp 7) (.tmp 6)) Option.none)]) (.seq (.cond (.tmp 8) .skip (.exit 0)) (.seq (.block 1
  (.seq (.region [(.mk (Option.some 9) (.atSlice 1 (.tmp 5) (.tmp 7)) Option.none), (.mk (Option.some 10) (.load 1 Bool.false (.tmp 9)) Option.none), (.mk (Option.some 4) (.mv
  (.tmp 10)) Option.none)]) (.seq (.region [(.mk (Option.some 11) (.mv (.tmp 0)) Option.none), (.mk (Option.some 12) (.mv (.tmp 4)) Option.none), (.mk (Option.some 13) (.callv
  (.tmp 11) [(.tmp 12)]) Option.none), (.mk (Option.some 14) (.un .not (.tmp 13)) Option.none)]) (.cond (.tmp 14) .ret .skip)))) (.region [(.mk (Option.some 15) (.bin .add (.tmp 7)
  (.const (.int .i64 1))) Option.none), (.mk (Option.some 7) (.mv (.tmp 15)) Option.none)]))))))) 16 [])
def a321 : AFn :=
  (.mk (.seq (.region [(.mk (Option.some 2) (.mv (.const (.int .i64 0))) Option.none)]) (.seq (.seq (.region [(.mk (Option.some 3) (.mv (.tmp 0)) Option.none), (.mk (Option.some 4)
  (.bin .geq (.tmp 3) (.const (.int .u64 4294967296))) Option.none)]) (.cond (.tmp 4) (.seq (.region [(.mk (Option.some 5) (.mv (.tmp 0)) Option.none), (.mk (Option.some 6) (.bin
  .shr (.tmp 5) (.const (.int .u64 32))) Option.none), (.mk (Option.some 0) (.mv (.tmp 6)) Option.none)]) (.region [(.mk (Option.some 2) (.mv (.const (.int .i64 32)))
  Option.none)])) .skip)) (.seq (.seq (.region [(.mk (Option.some 7) (.mv (.tmp 0)) Option.none), (.mk (Option.some 8) (.bin .geq (.tmp 7) (.const (.int .u64 65536)))
  Option.none)]) (.cond (.tmp 8) (.seq (.region [(.mk (Option.some 9) (.mv (.tmp 0)) Option.none), (.mk (Option.some 10) (.bin .shr (.tmp 9) (.const (.int .u64 16))) Option.none),
  (.mk (Option.some 0) (.mv (.tmp 10)) Option.none)]) (.region [(.mk (Option.some 11) (.mv (.tmp 2)) Option.none), (.mk (Option.some 12) (.bin .add (.tmp 11) (.const (.int .i64
  16))) Option.none), (.mk (Option.some 2) (.mv (.tmp 12)) Option.none)])) .skip)) (.seq (.seq (.region [(.mk (Option.some 13) (.mv (.tmp 0)) Option.none), (.mk (Option.some 14)
  (.bin .geq (.tmp 13) (.const (.int .u64 256))) Option.none)]) (.cond (.tmp 14) (.seq (.region [(.mk (Option.some 15) (.mv (.tmp 0)) Option.none), (.mk (Option.some 16) (.bin .shr
  (.tmp 15) (.const (.int .u64 8))) Option.none), (.mk (Option.some 0) (.mv (.tmp 16)) Option.none)]) (.region [(.mk (Option.some 17) (.mv (.tmp 2)) Option.none), (.mk (Option.some
  18) (.bin .add (.tmp 17) (.const (.int .i64 8))) Option.none), (.mk (Option.some 2) (.mv (.tmp 18)) Option.none)])) .skip)) (.seq (.region [(.mk (Option.some 19) (.mv (.tmp 2))
  Option.none), (.mk (Option.some 20) (.mv (.tmp 0)) Option.none), (.mk (Option.some 21) (.conv .u8 (.tmp 20)) Option.none), (.mk (Option.some 22) (.byteAt (.const (.string
  (ByteArray.mk #[0, 1, 2, 2, 3, 3, 3, 3, 4, 4, 4, 4, 4, 4, 4, 4, 5, 5, 5, 5, 5, 5, 5, 5, 5, 5, 5, 5, 5, 5, 5, 5, 6, 6, 6, 6, 6, 6, 6, 6, 6, 6, 6, 6, 6, 6, 6, 6, 6, 6, 6, 6, 6, 6,
  6, 6, 6, 6, 6, 6, 6, 6, 6, 6, 7, 7, 7, 7, 7, 7, 7, 7, 7, 7, 7, 7, 7, 7, 7, 7, 7, 7, 7, 7, 7, 7, 7, 7, 7, 7, 7, 7, 7, 7, 7, 7, 7, 7, 7, 7, 7, 7, 7, 7, 7, 7, 7, 7, 7, 7, 7, 7, 7,
  7, 7, 7, 7, 7, 7, 7, 7, 7, 7, 7, 7, 7, 7, 7, 8, 8, 8, 8, 8, 8, 8, 8, 8, 8, 8, 8, 8, 8, 8, 8, 8, 8, 8, 8, 8, 8, 8, 8, 8, 8, 8, 8, 8, 8, 8, 8, 8, 8, 8, 8, 8, 8, 8, 8, 8, 8, 8, 8,
  8, 8, 8, 8, 8, 8, 8, 8, 8, 8, 8, 8, 8, 8, 8, 8, 8, 8, 8, 8, 8, 8, 8, 8, 8, 8, 8, 8, 8, 8, 8, 8, 8, 8, 8, 8, 8, 8, 8, 8, 8, 8, 8, 8, 8, 8, 8, 8, 8, 8, 8, 8, 8, 8, 8, 8, 8, 8, 8,
  8, 8, 8, 8, 8, 8, 8, 8, 8, 8, 8, 8, 8, 8, 8, 8, 8, 8, 8, 8, 8, 8, 8, 8, 8]))) (.tmp 21)) Option.none), (.mk (Option.some 23) (.conv .i64 (.tmp 22)) Option.none), (.mk
  (Option.some 24) (.bin .add (.tmp 19) (.tmp 23)) Option.none), (.mk (Option.some 2) (.mv (.tmp 24)) Option.none)]) .ret))))) 25 [(.tmp 2)])
def a342 : AFn :=
  (.mk (.seq (.region [(.mk (Option.some 4) (.mv (.const (.int .i64 0))) Option.none)]) (.seq (.seq (.region [(.mk (Option.some 6) (.mv (.tmp 0)) Option.none), (.mk (Option.some 7)
  (.len (.tmp 6)) Option.none), (.mk (Option.some 8) (.mv (.const (.int .i64 0))) Option.none)]) (.block 0 (.loop (.seq (.region [(.mk (Option.some 9) (.bin .lss (.tmp 8) (.tmp 7))
  Option.none)]) (.seq (.cond (.tmp 9) .skip (.exit 0)) (.seq (.block 1 (.seq (.region [(.mk (Option.some 10) (.mv (.tmp 8)) Option.none), (.mk (Option.some 5) (.mv (.tmp 10))
  Option.none)]) (.seq (.region [(.mk (Option.some 11) (.mv (.tmp 1)) Option.none), (.mk (Option.some 12) (.mv (.tmp 0)) Option.none), (.mk (Option.some 13) (.mv (.tmp 5))
  Option.none), (.mk (Option.some 14) (.atSlice 3 (.tmp 12) (.tmp 13)) Option.none), (.mk (Option.some 15) (.load 3 Bool.true (.tmp 14)) Option.none), (.mk (Option.some 16) (.callv
  (.tmp 11) [(.tmp 15)]) Option.none)]) (.cond (.tmp 16) (.seq (.region [(.mk (Option.some 17) (.mv (.tmp 5)) Option.none), (.mk (Option.some 4) (.mv (.tmp 17)) Option.none)])
  .ret) .skip)))) (.region [(.mk (Option.some 18) (.bin .add (.tmp 8) (.const (.int .i64 1))) Option.none), (.mk (Option.some 8) (.mv (.tmp 18)) Option.none)]))))))) (.seq (.region
  [(.mk (Option.some 4) (.mv (.const (.int .i64 (-1)))) Option.none)]) .ret))) 19 [(.tmp 4)])
def a346 : AFn :=
  (.mk (.seq (.region [(.mk (Option.some 2) (.box (.tmp 0)) Option.none), (.mk (Option.some 4) (.mv (.const (.slice Option.none 0 0))) Option.none)]) (.seq (.seq (.region [(.mk
  (Option.some 6) (.mv (.tmp 1)) Option.none)]) (.block 0 (.rangeF (.tmp 6) [7] 13 (.region [(.mk (Option.some 5) (.mv (.tmp 7)) Option.none)]) (.block 1 (.region [(.mk
  (Option.some 8) (.load 1 Bool.false (.tmp 2)) Option.none), (.mk (Option.some 9) (.mv (.tmp 5)) Option.none), (.mk (Option.some 10) (.buildSlice 1 1 [(.str [])] [(0, (1, (.tmp
  9)))]) Option.none), (.mk (Option.some 11) (.append Bool.false 1 16 (.tmp 8) (.tmp 10)) Option.none), (.mk Option.none (.store 1 (.tmp 2) (.tmp 11)) Option.none)]))))) (.seq
  (.region [(.mk (Option.some 12) (.load 1 Bool.false (.tmp 2)) Option.none), (.mk (Option.some 4) (.mv (.tmp 12)) Option.none)]) .ret))) 13 [(.tmp 4)])
def a347 : AFn :=
  (.mk (.seq (.region [(.mk (Option.some 8) (.mv (.const (.bool Bool.true))) Option.none)]) (.seq (.region [(.mk (Option.some 9) (.mv (.const (.bool Bool.true))) Option.none)])
  (.block 0 (.loop (.block 1 (.seq (.region [(.mk (Option.some 19) (.mv (.tmp 2)) Option.none), (.mk (Option.some 20) (.mv (.tmp 1)) Option.none), (.mk (Option.some 21) (.bin .sub
  (.tmp 19) (.tmp 20)) Option.none), (.mk (Option.some 10) (.mv (.tmp 21)) Option.none)]) (.seq (.seq (.region [(.mk (Option.some 22) (.mv (.tmp 10)) Option.none), (.mk
  (Option.some 23) (.bin .leq (.tmp 22) (.const (.int .i64 12))) Option.none)]) (.cond (.tmp 23) (.seq (.region [(.mk (Option.some 24) (.mv (.tmp 0)) Option.none), (.mk
  (Option.some 25) (.mv (.tmp 1)) Option.none), (.mk (Option.some 26) (.mv (.tmp 2)) Option.none), (.mk (Option.some 27) (.call 387 [(.tmp 24), (.tmp 25), (.tmp 26)])
  Option.none)]) .ret) .skip)) (.seq (.seq (.region [(.mk (Option.some 28) (.mv (.tmp 3)) Option.none), (.mk (Option.some 29) (.bin .eql (.tmp 28) (.const (.int .i64 0)))
  Option.none)]) (.cond (.tmp 29) (.seq (.region [(.mk (Option.some 30) (.mv (.tmp 0)) Option.none), (.mk (Option.some 31) (.mv (.tmp 1)) Option.none), (.mk (Option.some 32) (.mv
  (.tmp 2)) Option.none), (.mk (Option.some 33) (.call 388 [(.tmp 30), (.tmp 31), (.tmp 32)]) Option.none)]) .ret) .skip)) (.seq (.seq (.region [(.mk (Option.some 34) (.mv (.tmp
  8)) Option.none), (.mk (Option.some 35) (.un .not (.tmp 34)) Option.none)]) (.cond (.tmp 35) (.seq (.region [(.mk (Option.some 36) (.mv (.tmp 0)) Option.none), (.mk (Option.some
  37) (.mv (.tmp 1)) Option.none), (.mk (Option.some 38) (.mv (.tmp 2)) Option.none), (.mk (Option.some 39) (.call 389 [(.tmp 36), (.tmp 37), (.tmp 38)]) Option.none)]) (.region
  [(.mk (Option.some 40) (.mv (.tmp 3)) Option.none), (.mk (Option.some 41) (.bin .sub (.tmp 40) (.const (.int .i64 1))) Option.none), (.mk (Option.some 3) (.mv (.tmp 41))
  Option.none)])) .skip)) (.seq (.region [(.mk (Option.some 43) (.mv (.tmp 0)) Option.none), (.mk (Option.some 44) (.mv (.tmp 1)) Option.none), (.mk (Option.some 45) (.mv (.tmp 2))
  Option.none), (.mk (Option.some 46) (.call 390 [(.tmp 43), (.tmp 44), (.tmp 45)]) Option.none), (.mk (Option.some 42) (.mv (.tmp 46)) Option.none), (.mk (Option.some 47)
  (.extract (.tmp 42) 0) Option.none), (.mk (Option.some 48) (.extract (.tmp 42) 1) Option.none), (.mk (Option.some 11) (.mv (.tmp 47)) Option.none), (.mk (Option.some 12) (.mv
  (.tmp 48)) Option.none)]) (.seq (.seq (.region [(.mk (Option.some 49) (.mv (.tmp 12)) Option.none), (.mk (Option.some 50) (.bin .eql (.tmp 49) (.const (.int .i64 2)))
  Option.none)]) (.cond (.tmp 50) (.seq (.region [(.mk (Option.some 51) (.mv (.tmp 0)) Option.none), (.mk (Option.some 52) (.mv (.tmp 1)) Option.none), (.mk (Option.some 53) (.mv
  (.tmp 2)) Option.none), (.mk (Option.some 54) (.call 391 [(.tmp 51), (.tmp 52), (.tmp 53)]) Option.none)]) (.seq (.region [(.mk (Option.some 55) (.mv (.tmp 2)) Option.none), (.mk
  (Option.some 56) (.bin .sub (.tmp 55) (.const (.int .i64 1))) Option.none), (.mk (Option.some 57) (.mv (.tmp 11)) Option.none), (.mk (Option.some 58) (.mv (.tmp 1)) Option.none),
  (.mk (Option.some 59) (.bin .sub (.tmp 57) (.tmp 58)) Option.none), (.mk (Option.some 60) (.bin .sub (.tmp 56) (.tmp 59)) Option.none), (.mk (Option.some 11) (.mv (.tmp 60))
  Option.none)]) (.region [(.mk (Option.some 12) (.mv (.const (.int .i64 1))) Option.none)]))) .skip)) (.seq (.seq (.region [(.mk (Option.some 61) (.mv (.tmp 8)) Option.none), (.mk
  (Option.some 62) (.mv (.tmp 61)) Option.none), (.mk (Option.some 63) (.mv (.tmp 9)) (Option.some (62, Bool.true))), (.mk (Option.some 64) (.pick (.tmp 62) (.tmp 63) (.const
  (.bool Bool.false))) Option.none), (.mk (Option.some 65) (.mv (.tmp 64)) Option.none), (.mk (Option.some 66) (.mv (.tmp 12)) (Option.some (65, Bool.true))), (.mk (Option.some 67)
  (.bin .eql (.tmp 66) (.const (.int .i64 1))) (Option.some (65, Bool.true))), (.mk (Option.some 68) (.pick (.tmp 65) (.tmp 67) (.const (.bool Bool.false))) Option.none)]) (.cond
  (.tmp 68) (.seq (.region [(.mk (Option.some 69) (.mv (.tmp 0)) Option.none), (.mk (Option.some 70) (.mv (.tmp 1)) Option.none), (.mk (Option.some 71) (.mv (.tmp 2)) Option.none),
  (.mk (Option.some 72) (.call 392 [(.tmp 69), (.tmp 70), (.tmp 71)]) Option.none)]) (.cond (.tmp 72) .ret .skip)) .skip)) (.seq (.seq (.draws [((.mk (Option.some 73) (.mv (.tmp
  1)) Option.none), (0, 12)), ((.mk (Option.some 74) (.bin .gtr (.tmp 73) (.const (.int .i64 0))) Option.none), (0, 12)), ((.mk (Option.some 75) (.mv (.tmp 74)) Option.none), (0,
  12)), ((.mk (Option.some 76) (.mv (.tmp 0)) (Option.some (75, Bool.true))), (0, 12)), ((.mk (Option.some 77) (.mv (.tmp 1)) (Option.some (75, Bool.true))), (0, 12)), ((.mk
  (Option.some 78) (.bin .sub (.tmp 77) (.const (.int .i64 1))) (Option.some (75, Bool.true))), (0, 12)), ((.mk (Option.some 79) (.atSlice 1 (.tmp 76) (.tmp 78)) (Option.some (75,
  Bool.true))), (0, 12)), ((.mk (Option.some 80) (.load 1 Bool.false (.tmp 79)) (Option.some (75, Bool.true))), (0, 12)), ((.mk (Option.some 81) (.mv (.tmp 0)) (Option.some (75,
  Bool.true))), (0, 12)), ((.mk (Option.some 82) (.mv (.tmp 11)) (Option.some (75, Bool.true))), (0, 12)), ((.mk (Option.some 83) (.atSlice 1 (.tmp 81) (.tmp 82)) (Option.some (75,
  Bool.true))), (0, 12)), ((.mk (Option.some 84) (.load 1 Bool.false (.tmp 83)) (Option.some (75, Bool.true))), (0, 12)), ((.mk (Option.some 85) (.call 393 [(.tmp 80), (.tmp 84)])
  (Option.some (75, Bool.true))), (0, 15)), ((.mk (Option.some 86) (.un .not (.tmp 85)) (Option.some (75, Bool.true))), (13, 15)), ((.mk (Option.some 87) (.pick (.tmp 75) (.tmp 86)
  (.const (.bool Bool.false))) Option.none), (13, 15))]) (.cond (.tmp 87) (.seq (.region [(.mk (Option.some 88) (.mv (.tmp 0)) Option.none), (.mk (Option.some 89) (.mv (.tmp 1))
  Option.none), (.mk (Option.some 90) (.mv (.tmp 2)) Option.none), (.mk (Option.some 91) (.mv (.tmp 11)) Option.none), (.mk (Option.some 92) (.call 394 [(.tmp 88), (.tmp 89), (.tmp
  90), (.tmp 91)]) Option.none), (.mk (Option.some 13) (.mv (.tmp 92)) Option.none)]) (.seq (.region [(.mk (Option.some 93) (.mv (.tmp 13)) Option.none), (.mk (Option.some 1) (.mv
  (.tmp 93)) Option.none)]) (.exit 1))) .skip)) (.seq (.region [(.mk (Option.some 95) (.mv (.tmp 0)) Option.none), (.mk (Option.some 96) (.mv (.tmp 1)) Option.none), (.mk
  (Option.some 97) (.mv (.tmp 2)) Option.none), (.mk (Option.some 98) (.mv (.tmp 11)) Option.none), (.mk (Option.some 99) (.call 395 [(.tmp 95), (.tmp 96), (.tmp 97), (.tmp 98)])
  Option.none), (.mk (Option.some 94) (.mv (.tmp 99)) Option.none), (.mk (Option.some 100) (.extract (.tmp 94) 0) Option.none), (.mk (Option.some 101) (.extract (.tmp 94) 1)
  Option.none), (.mk (Option.some 14) (.mv (.tmp 100)) Option.none), (.mk (Option.some 15) (.mv (.tmp 101)) Option.none)]) (.seq (.region [(.mk (Option.some 102) (.mv (.tmp 15))
  Option.none), (.mk (Option.some 9) (.mv (.tmp 102)) Option.none)]) (.seq (.region [(.mk (Option.some 103) (.mv (.tmp 14)) Option.none), (.mk (Option.some 104) (.mv (.tmp 1))
  Option.none), (.mk (Option.some 105) (.bin .sub (.tmp 103) (.tmp 104)) Option.none), (.mk (Option.some 106) (.mv (.tmp 2)) Option.none), (.mk (Option.some 107) (.mv (.tmp 14))
  Option.none), (.mk (Option.some 108) (.bin .sub (.tmp 106) (.tmp 107)) Option.none), (.mk (Option.some 16) (.mv (.tmp 105)) Option.none), (.mk (Option.some 17) (.mv (.tmp 108))
  Option.none)]) (.seq (.region [(.mk (Option.some 109) (.mv (.tmp 10)) Option.none), (.mk (Option.some 110) (.bin .quo (.tmp 109) (.const (.int .i64 8))) Option.none), (.mk
  (Option.some 18) (.mv (.tmp 110)) Option.none)]) (.seq (.region [(.mk (Option.some 111) (.mv (.tmp 16)) Option.none), (.mk (Option.some 112) (.mv (.tmp 17)) Option.none), (.mk
  (Option.some 113) (.bin .lss (.tmp 111) (.tmp 112)) Option.none)]) (.cond (.tmp 113) (.seq (.region [(.mk (Option.some 114) (.mv (.tmp 16)) Option.none), (.mk (Option.some 115)
  (.mv (.tmp 18)) Option.none), (.mk (Option.some 116) (.bin .geq (.tmp 114) (.tmp 115)) Option.none), (.mk (Option.some 8) (.mv (.tmp 116)) Option.none)]) (.seq (.region [(.mk
  (Option.some 117) (.mv (.tmp 0)) Option.none), (.mk (Option.some 118) (.mv (.tmp 1)) Option.none), (.mk (Option.some 119) (.mv (.tmp 14)) Option.none), (.mk (Option.some 120)
  (.mv (.tmp 3)) Option.none), (.mk (Option.some 121) (.call 347 [(.tmp 117), (.tmp 118), (.tmp 119), (.tmp 120)]) Option.none)]) (.region [(.mk (Option.some 122) (.mv (.tmp 14))
  Option.none), (.mk (Option.some 123) (.bin .add (.tmp 122) (.const (.int .i64 1))) Option.none), (.mk (Option.some 1) (.mv (.tmp 123)) Option.none)]))) (.seq (.region [(.mk
  (Option.some 124) (.mv (.tmp 17)) Option.none), (.mk (Option.some 125) (.mv (.tmp 18)) Option.none), (.mk (Option.some 126) (.bin .geq (.tmp 124) (.tmp 125)) Option.none), (.mk
  (Option.some 8) (.mv (.tmp 126)) Option.none)]) (.seq (.region [(.mk (Option.some 127) (.mv (.tmp 0)) Option.none), (.mk (Option.some 128) (.mv (.tmp 14)) Option.none), (.mk
  (Option.some 129) (.bin .add (.tmp 128) (.const (.int .i64 1))) Option.none), (.mk (Option.some 130) (.mv (.tmp 2)) Option.none), (.mk (Option.some 131) (.mv (.tmp 3))
  Option.none), (.mk (Option.some 132) (.call 347 [(.tmp 127), (.tmp 129), (.tmp 130), (.tmp 131)]) Option.none)]) (.region [(.mk (Option.some 133) (.mv (.tmp 14)) Option.none),
  (.mk (Option.some 2) (.mv (.tmp 133)) Option.none)])))))))))))))))))))))) 134 [])
def a348 : AFn :=
  (.mk (.seq (.region [(.mk (Option.some 2) (.mv (.const .nilIface)) Option.none)]) (.seq (.seq (.region [(.mk (Option.some 3) (.mv (.tmp 0)) Option.none), (.mk (Option.some 4) (.bin
  .lss (.tmp 3) (.const (.int .i64 0))) Option.none), (.mk (Option.some 5) (.mv (.tmp 4)) Option.none), (.mk (Option.some 6) (.mv (.tmp 0)) (Option.some (5, Bool.false))), (.mk
  (Option.some 7) (.bin .gtr (.tmp 6) (.const (.int .i64 1048576))) (Option.some (5, Bool.false))), (.mk (Option.some 8) (.pick (.tmp 5) (.const (.bool Bool.true)) (.tmp 7))
  Option.none)]) (.cond (.tmp 8) (.seq (.region [(.mk (Option.some 9) (.mv (.tmp 0)) Option.none), (.mk (Option.some 10) (.call 90 [(.const (.int .i64 2))]) Option.none), (.mk
  (Option.some 11) (.call 150 [(.const (.int .i64 1048576)), (.tmp 9), (.tmp 10)]) Option.none), (.mk (Option.some 2) (.mv (.tmp 11)) Option.none)]) .ret) .skip)) (.seq (.region
  [(.mk (Option.some 2) (.mv (.const .nilIface)) Option.none)]) .ret))) 12 [(.tmp 2)])
def a349 : AFn :=
  (.mk (.seq (.region [(.mk (Option.some 2) (.mv (.const (.int .i64 0))) Option.none)]) (.seq (.seq (.region [(.mk (Option.some 3) (.mv (.tmp 0)) Option.none), (.mk (Option.some 4)
  (.eq .ptr Bool.false (.tmp 3) (.const (.pointer Option.none))) Option.none)]) (.cond (.tmp 4) (.seq (.region [(.mk (Option.some 2) (.mv (.const (.int .i64 0))) Option.none)])
  .ret) .skip)) (.seq (.draws [((.mk (Option.some 5) (.mv (.tmp 0)) Option.none), (0, 9)), ((.mk (Option.some 6) (.nilCheck (.tmp 5)) Option.none), (0, 9)), ((.mk (Option.some 7)
  (.fieldAddr 0 (.tmp 6)) Option.none), (0, 9)), ((.mk (Option.some 8) (.load 1 Bool.false (.tmp 7)) Option.none), (0, 9)), ((.mk (Option.some 9) (.mv (.tmp 0)) Option.none), (0,
  5)), ((.mk (Option.some 10) (.call 145 [(.tmp 9)]) Option.none), (0, 9)), ((.mk (Option.some 11) (.bin .sub (.tmp 8) (.tmp 10)) Option.none), (6, 9)), ((.mk (Option.some 12)
  (.minmax Bool.true [(.tmp 11), (.const (.int .i64 0))]) Option.none), (6, 9)), ((.mk (Option.some 2) (.mv (.tmp 12)) Option.none), (6, 9))]) .ret))) 13 [(.tmp 2)])
def a355 : AFn :=
  (.mk (.seq (.region [(.mk (Option.some 8) (.mv (.tmp 1)) Option.none), (.mk (Option.some 9) (.bin .add (.tmp 8) (.const (.int .i64 1))) Option.none), (.mk (Option.some 6) (.mv
  (.tmp 9)) Option.none)]) (.block 0 (.loop (.seq (.seq (.region [(.mk (Option.some 10) (.mv (.tmp 6)) Option.none), (.mk (Option.some 11) (.mv (.tmp 2)) Option.none), (.mk
  (Option.some 12) (.bin .lss (.tmp 10) (.tmp 11)) Option.none)]) (.cond (.tmp 12) .skip (.exit 0))) (.seq (.block 1 (.seq (.region [(.mk (Option.some 15) (.mv (.tmp 6))
  Option.none), (.mk (Option.some 7) (.mv (.tmp 15)) Option.none)]) (.block 2 (.loop (.seq (.seq (.draws [((.mk (Option.some 16) (.mv (.tmp 7)) Option.none), (0, 13)), ((.mk
  (Option.some 17) (.mv (.tmp 1)) Option.none), (0, 13)), ((.mk (Option.some 18) (.bin .gtr (.tmp 16) (.tmp 17)) Option.none), (0, 13)), ((.mk (Option.some 19) (.mv (.tmp 18))
  Option.none), (0, 13)), ((.mk (Option.some 20) (.mv (.tmp 0)) (Option.some (19, Bool.true))), (0, 13)), ((.mk (Option.some 21) (.mv (.tmp 7)) (Option.some (19, Bool.true))), (0,
  13)), ((.mk (Option.some 22) (.atSlice 1 (.tmp 20) (.tmp 21)) (Option.some (19, Bool.true))), (0, 13)), ((.mk (Option.some 23) (.load 1 Bool.false (.tmp 22)) (Option.some (19,
  Bool.true))), (0, 13)), ((.mk (Option.some 24) (.mv (.tmp 0)) (Option.some (19, Bool.true))), (0, 13)), ((.mk (Option.some 25) (.mv (.tmp 7)) (Option.some (19, Bool.true))), (0,
  13)), ((.mk (Option.some 26) (.bin .sub (.tmp 25) (.const (.int .i64 1))) (Option.some (19, Bool.true))), (0, 13)), ((.mk (Option.some 27) (.atSlice 1 (.tmp 24) (.tmp 26))
  (Option.some (19, Bool.true))), (0, 13)), ((.mk (Option.some 28) (.load 1 Bool.false (.tmp 27)) (Option.some (19, Bool.true))), (0, 13)), ((.mk (Option.some 29) (.call 361 [(.tmp
  23), (.tmp 28)]) (Option.some (19, Bool.true))), (0, 15)), ((.mk (Option.some 30) (.pick (.tmp 19) (.tmp 29) (.const (.bool Bool.false))) Option.none), (14, 15))]) (.cond (.tmp
  30) .skip (.exit 2))) (.seq (.block 3 (.draws [((.mk (Option.some 33) (.mv (.tmp 0)) Option.none), (0, 15)), ((.mk (Option.some 34) (.mv (.tmp 7)) Option.none), (0, 15)), ((.mk
  (Option.some 35) (.mv (.tmp 0)) Option.none), (0, 17)), ((.mk (Option.some 36) (.mv (.tmp 7)) Option.none), (0, 17)), ((.mk (Option.some 37) (.bin .sub (.tmp 36) (.const (.int
  .i64 1))) Option.none), (0, 17)), ((.mk (Option.some 38) (.mv (.tmp 0)) Option.none), (0, 15)), ((.mk (Option.some 39) (.mv (.tmp 7)) Option.none), (0, 15)), ((.mk (Option.some
  40) (.bin .sub (.tmp 39) (.const (.int .i64 1))) Option.none), (0, 15)), ((.mk (Option.some 41) (.atSlice 1 (.tmp 38) (.tmp 40)) Option.none), (0, 15)), ((.mk (Option.some 42)
  (.load 1 Bool.false (.tmp 41)) Option.none), (0, 15)), ((.mk (Option.some 43) (.mv (.tmp 0)) Option.none), (0, 15)), ((.mk (Option.some 44) (.mv (.tmp 7)) Option.none), (0, 15)),
  ((.mk (Option.some 45) (.atSlice 1 (.tmp 43) (.tmp 44)) Option.none), (0, 15)), ((.mk (Option.some 46) (.load 1 Bool.false (.tmp 45)) Option.none), (0, 15)), ((.mk (Option.some
  47) (.atSlice 1 (.tmp 33) (.tmp 34)) Option.none), (0, 15)), ((.mk Option.none (.store 1 (.tmp 47) (.tmp 42)) Option.none), (0, 17)), ((.mk (Option.some 48) (.atSlice 1 (.tmp 35)
  (.tmp 37)) Option.none), (16, 17)), ((.mk Option.none (.store 1 (.tmp 48) (.tmp 46)) Option.none), (16, 18))])) (.region [(.mk (Option.some 31) (.mv (.tmp 7)) Option.none), (.mk
  (Option.some 32) (.bin .sub (.tmp 31) (.const (.int .i64 1))) Option.none), (.mk (Option.some 7) (.mv (.tmp 32)) Option.none)]))))))) (.region [(.mk (Option.some 13) (.mv (.tmp
  6)) Option.none), (.mk (Option.some 14) (.bin .add (.tmp 13) (.const (.int .i64 1))) Option.none), (.mk (Option.some 6) (.mv (.tmp 14)) Option.none)])))))) 49 [])
def a365 : AFn :=
  (.mk (.seq (.region [(.mk (Option.some 4) (.mv (.const (.int .i64 0))) Option.none)]) (.seq (.seq (.region [(.mk (Option.some 6) (.mv (.tmp 0)) Option.none), (.mk (Option.some 7)
  (.len (.tmp 6)) Option.none), (.mk (Option.some 8) (.mv (.const (.int .i64 0))) Option.none)]) (.block 0 (.loop (.seq (.region [(.mk (Option.some 9) (.bin .lss (.tmp 8) (.tmp 7))
  Option.none)]) (.seq (.cond (.tmp 9) .skip (.exit 0)) (.seq (.block 1 (.seq (.region [(.mk (Option.some 10) (.mv (.tmp 8)) Option.none), (.mk (Option.some 5) (.mv (.tmp 10))
  Option.none)]) (.seq (.region [(.mk (Option.some 11) (.mv (.tmp 1)) Option.none), (.mk (Option.some 12) (.mv (.tmp 0)) Option.none), (.mk (Option.some 13) (.mv (.tmp 5))
  Option.none), (.mk (Option.some 14) (.atSlice 1 (.tmp 12) (.tmp 13)) Option.none), (.mk (Option.some 15) (.load 1 Bool.false (.tmp 14)) Option.none), (.mk (Option.some 16)
  (.callv (.tmp 11) [(.tmp 15)]) Option.none)]) (.cond (.tmp 16) (.seq (.region [(.mk (Option.some 17) (.mv (.tmp 5)) Option.none), (.mk (Option.some 4) (.mv (.tmp 17))
  Option.none)]) .ret) .skip)))) (.region [(.mk (Option.some 18) (.bin .add (.tmp 8) (.const (.int .i64 1))) Option.none), (.mk (Option.some 8) (.mv (.tmp 18)) Option.none)])))))))
  (.seq (.region [(.mk (Option.some 4) (.mv (.const (.int .i64 (-1)))) Option.none)]) .ret))) 19 [(.tmp 4)])
def a366 : AFn :=
  (.mk (.seq (.region [(.mk (Option.some 2) (.box (.tmp 0)) Option.none), (.mk (Option.some 3) (.mv (.const (.bool Bool.false))) Option.none)]) (.seq (.region [(.mk (Option.some 4)
  (.load 1 Bool.false (.tmp 1)) Option.none), (.mk (Option.some 5) (.mkFunc (.func 368) [] [(.tmp 2)]) Option.none), (.mk (Option.some 6) (.call 367 [(.tmp 4), (.tmp 5)])
  Option.none), (.mk (Option.some 3) (.mv (.tmp 6)) Option.none)]) .ret)) 7 [(.tmp 3)])
def a367 : AFn :=
  (.mk (.seq (.region [(.mk (Option.some 4) (.mv (.const (.bool Bool.false))) Option.none)]) (.seq (.region [(.mk (Option.some 5) (.mv (.tmp 0)) Option.none), (.mk (Option.some 6)
  (.mv (.tmp 1)) Option.none), (.mk (Option.some 7) (.call 400 [(.tmp 5), (.tmp 6)]) Option.none), (.mk (Option.some 8) (.bin .geq (.tmp 7) (.const (.int .i64 0))) Option.none),
  (.mk (Option.some 4) (.mv (.tmp 8)) Option.none)]) .ret)) 9 [(.tmp 4)])
def a368 : AFn :=
  (.mk (.seq (.region [(.mk (Option.some 3) (.mv (.const (.bool Bool.false))) Option.none)]) (.seq (.region [(.mk (Option.some 4) (.load 1 Bool.false (.tmp 1)) Option.none), (.mk
  (Option.some 5) (.mv (.tmp 0)) Option.none), (.mk (Option.some 6) (.call 118 [(.tmp 4), (.tmp 5)]) Option.none), (.mk (Option.some 3) (.mv (.tmp 6)) Option.none)]) .ret)) 7
  [(.tmp 3)])
def a369 : AFn :=
  (.mk (.seq (.region [(.mk (Option.some 4) (.load 1 Bool.false (.tmp 1)) Option.none), (.mk (Option.some 5) (.range Bool.true (.tmp 4)) Option.none)]) (.block 0 (.loop (.seq
  (.region [(.mk (Option.some 6) (.next Bool.false (.tmp 5)) Option.none), (.mk (Option.some 7) (.extract (.tmp 6) 0) Option.none)]) (.seq (.cond (.tmp 7) .skip (.exit 0)) (.block
  1 (.seq (.region [(.mk (Option.some 8) (.entry (.tmp 5)) Option.none), (.mk (Option.some 9) (.extract (.tmp 8) 0) Option.none), (.mk (Option.some 3) (.mv (.tmp 9)) Option.none)])
  (.seq (.region [(.mk (Option.some 10) (.mv (.tmp 0)) Option.none), (.mk (Option.some 11) (.mv (.tmp 3)) Option.none), (.mk (Option.some 12) (.callv (.tmp 10) [(.tmp 11)])
  Option.none), (.mk (Option.some 13) (.un .not (.tmp 12)) Option.none)]) (.cond (.tmp 13) .ret .skip))))))))) 14 [])
def a370 : AFn :=
  (.mk (.seq (.region [(.mk (Option.some 2) (.mv (.const (.slice Option.none 0 0))) Option.none)]) (.seq (.seq (.region [(.mk (Option.some 3) (.mv (.tmp 0)) Option.none), (.mk
  (Option.some 4) (.eq .nilSlice Bool.false (.tmp 3) (.const (.slice Option.none 0 0))) Option.none)]) (.cond (.tmp 4) (.seq (.region [(.mk (Option.some 2) (.mv (.const (.slice
  Option.none 0 0))) Option.none)]) .ret) .skip)) (.seq (.region [(.mk (Option.some 5) (.buildSlice 0 1 [] []) Option.none), (.mk (Option.some 6) (.mv (.tmp 0)) Option.none), (.mk
  (Option.some 7) (.append Bool.false 1 24 (.tmp 5) (.tmp 6)) Option.none), (.mk (Option.some 2) (.mv (.tmp 7)) Option.none)]) .ret))) 8 [(.tmp 2)])
def a372 : AFn :=
  (.mk (.seq (.region [(.mk (Option.some 6) (.mv (.const (.int .i64 0))) Option.none), (.mk (Option.some 7) (.mv (.const (.bool Bool.false))) Option.none)]) (.seq (.region [(.mk
  (Option.some 12) (.mv (.tmp 0)) Option.none), (.mk (Option.some 13) (.len (.tmp 12)) Option.none), (.mk (Option.some 8) (.mv (.tmp 13)) Option.none)]) (.seq (.region [(.mk
  (Option.some 14) (.mv (.tmp 8)) Option.none), (.mk (Option.some 9) (.mv (.const (.int .i64 0))) Option.none), (.mk (Option.some 10) (.mv (.tmp 14)) Option.none)]) (.seq (.block 0
  (.loop (.seq (.seq (.region [(.mk (Option.some 15) (.mv (.tmp 9)) Option.none), (.mk (Option.some 16) (.mv (.tmp 10)) Option.none), (.mk (Option.some 17) (.bin .lss (.tmp 15)
  (.tmp 16)) Option.none)]) (.cond (.tmp 17) .skip (.exit 0))) (.block 1 (.seq (.region [(.mk (Option.some 18) (.mv (.tmp 9)) Option.none), (.mk (Option.some 19) (.mv (.tmp 10))
  Option.none), (.mk (Option.some 20) (.bin .add (.tmp 18) (.tmp 19)) Option.none), (.mk (Option.some 21) (.conv .u64 (.tmp 20)) Option.none), (.mk (Option.some 22) (.bin .shr
  (.tmp 21) (.const (.int .u64 1))) Option.none), (.mk (Option.some 23) (.conv .i64 (.tmp 22)) Option.none), (.mk (Option.some 11) (.mv (.tmp 23)) Option.none)]) (.seq (.region
  [(.mk (Option.some 24) (.mv (.tmp 2)) Option.none), (.mk (Option.some 25) (.mv (.tmp 0)) Option.none), (.mk (Option.some 26) (.mv (.tmp 11)) Option.none), (.mk (Option.some 27)
  (.atSlice 2 (.tmp 25) (.tmp 26)) Option.none), (.mk (Option.some 28) (.load 2 Bool.true (.tmp 27)) Option.none), (.mk (Option.some 29) (.mv (.tmp 1)) Option.none), (.mk
  (Option.some 30) (.callv (.tmp 24) [(.tmp 28), (.tmp 29)]) Option.none), (.mk (Option.some 31) (.bin .lss (.tmp 30) (.const (.int .i64 0))) Option.none)]) (.cond (.tmp 31)
  (.region [(.mk (Option.some 32) (.mv (.tmp 11)) Option.none), (.mk (Option.some 33) (.bin .add (.tmp 32) (.const (.int .i64 1))) Option.none), (.mk (Option.some 9) (.mv (.tmp
  33)) Option.none)]) (.region [(.mk (Option.some 34) (.mv (.tmp 11)) Option.none), (.mk (Option.some 10) (.mv (.tmp 34)) Option.none)])))))))) (.seq (.region [(.mk (Option.some
  35) (.mv (.tmp 9)) Option.none), (.mk (Option.some 36) (.mv (.tmp 9)) Option.none), (.mk (Option.some 37) (.mv (.tmp 8)) Option.none), (.mk (Option.some 38) (.bin .lss (.tmp 36)
  (.tmp 37)) Option.none), (.mk (Option.some 39) (.mv (.tmp 38)) Option.none), (.mk (Option.some 40) (.mv (.tmp 2)) (Option.some (39, Bool.true))), (.mk (Option.some 41) (.mv (.tmp
  0)) (Option.some (39, Bool.true))), (.mk (Option.some 42) (.mv (.tmp 9)) (Option.some (39, Bool.true))), (.mk (Option.some 43) (.atSlice 2 (.tmp 41) (.tmp 42)) (Option.some (39,
  Bool.true))), (.mk (Option.some 44) (.load 2 Bool.true (.tmp 43)) (Option.some (39, Bool.true))), (.mk (Option.some 45) (.mv (.tmp 1)) (Option.some (39, Bool.true))), (.mk
  (Option.some 46) (.callv (.tmp 40) [(.tmp 44), (.tmp 45)]) (Option.some (39, Bool.true))), (.mk (Option.some 47) (.bin .eql (.tmp 46) (.const (.int .i64 0))) (Option.some (39,
  Bool.true))), (.mk (Option.some 48) (.pick (.tmp 39) (.tmp 47) (.const (.bool Bool.false))) Option.none), (.mk (Option.some 6) (.mv (.tmp 35)) Option.none), (.mk (Option.some 7)
  (.mv (.tmp 48)) Option.none)]) .ret))))) 49 [(.tmp 6), (.tmp 7)])
def a387 : AFn :=
  (.mk (.seq (.region [(.mk (Option.some 8) (.mv (.tmp 1)) Option.none), (.mk (Option.some 9) (.bin .add (.tmp 8) (.const (.int .i64 1))) Option.none), (.mk (Option.some 6) (.mv
  (.tmp 9)) Option.none)]) (.block 0 (.loop (.seq (.seq (.region [(.mk (Option.some 10) (.mv (.tmp 6)) Option.none), (.mk (Option.some 11) (.mv (.tmp 2)) Option.none), (.mk
  (Option.some 12) (.bin .lss (.tmp 10) (.tmp 11)) Option.none)]) (.cond (.tmp 12) .skip (.exit 0))) (.seq (.block 1 (.seq (.region [(.mk (Option.some 15) (.mv (.tmp 6))
  Option.none), (.mk (Option.some 7) (.mv (.tmp 15)) Option.none)]) (.block 2 (.loop (.seq (.seq (.draws [((.mk (Option.some 16) (.mv (.tmp 7)) Option.none), (0, 13)), ((.mk
  (Option.some 17) (.mv (.tmp 1)) Option.none), (0, 13)), ((.mk (Option.some 18) (.bin .gtr (.tmp 16) (.tmp 17)) Option.none), (0, 13)), ((.mk (Option.some 19) (.mv (.tmp 18))
  Option.none), (0, 13)), ((.mk (Option.some 20) (.mv (.tmp 0)) (Option.some (19, Bool.true))), (0, 13)), ((.mk (Option.some 21) (.mv (.tmp 7)) (Option.some (19, Bool.true))), (0,
  13)), ((.mk (Option.some 22) (.atSlice 1 (.tmp 20) (.tmp 21)) (Option.some (19, Bool.true))), (0, 13)), ((.mk (Option.some 23) (.load 1 Bool.false (.tmp 22)) (Option.some (19,
  Bool.true))), (0, 13)), ((.mk (Option.some 24) (.mv (.tmp 0)) (Option.some (19, Bool.true))), (0, 13)), ((.mk (Option.some 25) (.mv (.tmp 7)) (Option.some (19, Bool.true))), (0,
  13)), ((.mk (Option.some 26) (.bin .sub (.tmp 25) (.const (.int .i64 1))) (Option.some (19, Bool.true))), (0, 13)), ((.mk (Option.some 27) (.atSlice 1 (.tmp 24) (.tmp 26))
  (Option.some (19, Bool.true))), (0, 13)), ((.mk (Option.some 28) (.load 1 Bool.false (.tmp 27)) (Option.some (19, Bool.true))), (0, 13)), ((.mk (Option.some 29) (.call 393 [(.tmp
  23), (.tmp 28)]) (Option.some (19, Bool.true))), (0, 15)), ((.mk (Option.some 30) (.pick (.tmp 19) (.tmp 29) (.const (.bool Bool.false))) Option.none), (14, 15))]) (.cond (.tmp
  30) .skip (.exit 2))) (.seq (.block 3 (.draws [((.mk (Option.some 33) (.mv (.tmp 0)) Option.none), (0, 15)), ((.mk (Option.some 34) (.mv (.tmp 7)) Option.none), (0, 15)), ((.mk
  (Option.some 35) (.mv (.tmp 0)) Option.none), (0, 17)), ((.mk (Option.some 36) (.mv (.tmp 7)) Option.none), (0, 17)), ((.mk (Option.some 37) (.bin .sub (.tmp 36) (.const (.int
  .i64 1))) Option.none), (0, 17)), ((.mk (Option.some 38) (.mv (.tmp 0)) Option.none), (0, 15)), ((.mk (Option.some 39) (.mv (.tmp 7)) Option.none), (0, 15)), ((.mk (Option.some
  40) (.bin .sub (.tmp 39) (.const (.int .i64 1))) Option.none), (0, 15)), ((.mk (Option.some 41) (.atSlice 1 (.tmp 38) (.tmp 40)) Option.none), (0, 15)), ((.mk (Option.some 42)
  (.load 1 Bool.false (.tmp 41)) Option.none), (0, 15)), ((.mk (Option.some 43) (.mv (.tmp 0)) Option.none), (0, 15)), ((.mk (Option.some 44) (.mv (.tmp 7)) Option.none), (0, 15)),
  ((.mk (Option.some 45) (.atSlice 1 (.tmp 43) (.tmp 44)) Option.none), (0, 15)), ((.mk (Option.some 46) (.load 1 Bool.false (.tmp 45)) Option.none), (0, 15)), ((.mk (Option.some
  47) (.atSlice 1 (.tmp 33) (.tmp 34)) Option.none), (0, 15)), ((.mk Option.none (.store 1 (.tmp 47) (.tmp 42)) Option.none), (0, 17)), ((.mk (Option.some 48) (.atSlice 1 (.tmp 35)
  (.tmp 37)) Option.none), (16, 17)), ((.mk Option.none (.store 1 (.tmp 48) (.tmp 46)) Option.none), (16, 18))])) (.region [(.mk (Option.some 31) (.mv (.tmp 7)) Option.none), (.mk
  (Option.some 32) (.bin .sub (.tmp 31) (.const (.int .i64 1))) Option.none), (.mk (Option.some 7) (.mv (.tmp 32)) Option.none)]))))))) (.region [(.mk (Option.some 13) (.mv (.tmp
  6)) Option.none), (.mk (Option.some 14) (.bin .add (.tmp 13) (.const (.int .i64 1))) Option.none), (.mk (Option.some 6) (.mv (.tmp 14)) Option.none)])))))) 49 [])
def a400 : AFn :=
  (.mk (.seq (.region [(.mk (Option.some 4) (.mv (.const (.int .i64 0))) Option.none)]) (.seq (.seq (.region [(.mk (Option.some 6) (.mv (.tmp 0)) Option.none), (.mk (Option.some 7)
  (.len (.tmp 6)) Option.none), (.mk (Option.some 8) (.mv (.const (.int .i64 0))) Option.none)]) (.block 0 (.loop (.seq (.region [(.mk (Option.some 9) (.bin .lss (.tmp 8) (.tmp 7))
  Option.none)]) (.seq (.cond (.tmp 9) .skip (.exit 0)) (.seq (.block 1 (.seq (.region [(.mk (Option.some 10) (.mv (.tmp 8)) Option.none), (.mk (Option.some 5) (.mv (.tmp 10))
  Option.none)]) (.seq (.region [(.mk (Option.some 11) (.mv (.tmp 1)) Option.none), (.mk (Option.some 12) (.mv (.tmp 0)) Option.none), (.mk (Option.some 13) (.mv (.tmp 5))
  Option.none), (.mk (Option.some 14) (.atSlice 1 (.tmp 12) (.tmp 13)) Option.none), (.mk (Option.some 15) (.load 1 Bool.false (.tmp 14)) Option.none), (.mk (Option.some 16)
  (.callv (.tmp 11) [(.tmp 15)]) Option.none)]) (.cond (.tmp 16) (.seq (.region [(.mk (Option.some 17) (.mv (.tmp 5)) Option.none), (.mk (Option.some 4) (.mv (.tmp 17))
  Option.none)]) .ret) .skip)))) (.region [(.mk (Option.some 18) (.bin .add (.tmp 8) (.const (.int .i64 1))) Option.none), (.mk (Option.some 8) (.mv (.tmp 18)) Option.none)])))))))
  (.seq (.region [(.mk (Option.some 4) (.mv (.const (.int .i64 (-1)))) Option.none)]) .ret))) 19 [(.tmp 4)])
def a439 : AFn :=
  (.mk (.seq (.region [(.mk (Option.some 4) (.mv (.const (.bool Bool.false))) Option.none)]) (.seq (.region [(.mk (Option.some 5) (.alloc [(.ptr Option.none)]) Option.none)]) (.seq
  (.draws [((.mk (Option.some 6) (.mv (.tmp 1)) Option.none), (0, 2)), ((.mk (Option.some 7) (.mkIface 231 (.tmp 5)) Option.none), (0, 2)), ((.mk (Option.some 8) (.call 153 [(.tmp
  6), (.tmp 7)]) Option.none), (0, 15)), ((.mk (Option.some 9) (.mv (.tmp 8)) Option.none), (3, 15)), ((.mk (Option.some 10) (.load 1 Bool.false (.tmp 5)) (Option.some (9,
  Bool.true))), (3, 15)), ((.mk (Option.some 11) (.nilCheck (.tmp 10)) (Option.some (9, Bool.true))), (3, 15)), ((.mk (Option.some 12) (.fieldAddr 0 (.tmp 11)) (Option.some (9,
  Bool.true))), (3, 15)), ((.mk (Option.some 13) (.load 1 Bool.false (.tmp 12)) (Option.some (9, Bool.true))), (3, 15)), ((.mk (Option.some 14) (.mv (.tmp 0)) (Option.some (9,
  Bool.true))), (3, 15)), ((.mk (Option.some 15) (.nilCheck (.tmp 14)) (Option.some (9, Bool.true))), (3, 15)), ((.mk (Option.some 16) (.fieldAddr 0 (.tmp 15)) (Option.some (9,
  Bool.true))), (3, 15)), ((.mk (Option.some 17) (.load 1 Bool.false (.tmp 16)) (Option.some (9, Bool.true))), (3, 15)), ((.mk (Option.some 18) (.bin .eql (.tmp 13) (.tmp 17))
  (Option.some (9, Bool.true))), (3, 15)), ((.mk (Option.some 19) (.pick (.tmp 9) (.tmp 18) (.const (.bool Bool.false))) Option.none), (3, 15)), ((.mk (Option.some 4) (.mv (.tmp
  19)) Option.none), (3, 15))]) .ret))) 20 [(.tmp 4)])
def a441 : AFn :=
  (.mk (.seq (.region [(.mk (Option.some 1) (.box (.tmp 0)) Option.none), (.mk (Option.some 2) (.mv (.const .nilIface)) Option.none)]) (.seq (.region [(.mk (Option.some 3)
  (.fieldAddr 0 (.tmp 1)) Option.none), (.mk (Option.some 4) (.load 1 Bool.false (.tmp 3)) Option.none), (.mk (Option.some 2) (.mv (.tmp 4)) Option.none)]) .ret)) 5 [(.tmp 2)])
def fns : Nat → Option AFn
  | 5 => some a5
  | 15 => some a15
  | 24 => some a24
  | 27 => some a27
  | 28 => some a28
  | 29 => some a29
  | 30 => some a30
  | 31 => some a31
  | 32 => some a32
  | 33 => some a33
  | 34 => some a34
  | 35 => some a35
  | 36 => some a36
  | 37 => some a37
  | 38 => some a38
  | 39 => some a39
  | 63 => some a63
  | 66 => some a66
  | 67 => some a67
  | 68 => some a68
  | 69 => some a69
  | 70 => some a70
  | 73 => some a73
  | 76 => some a76
  | 78 => some a78
  | 79 => some a79
  | 81 => some a81
  | 82 => some a82
  | 83 => some a83
  | 84 => some a84
  | 85 => some a85
  | 86 => some a86
  | 87 => some a87
  | 88 => some a88
  | 89 => some a89
  | 90 => some a90
  | 91 => some a91
  | 92 => some a92
  | 93 => some a93
  | 94 => some a94
  | 95 => some a95
  | 99 => some a99
  | 108 => some a108
  | 118 => some a118
  | 119 => some a119
  | 120 => some a120
  | 121 => some a121
  | 145 => some a145
  | 151 => some a151
  | 152 => some a152
  | 153 => some a153
  | 154 => some a154
  | 155 => some a155
  | 156 => some a156
  | 157 => some a157
  | 158 => some a158
  | 159 => some a159
  | 160 => some a160
  | 161 => some a161
  | 164 => some a164
  | 165 => some a165
  | 172 => some a172
  | 173 => some a173
  | 174 => some a174
  | 176 => some a176
  | 178 => some a178
  | 179 => some a179
  | 180 => some a180
  | 181 => some a181
  | 182 => some a182
  | 198 => some a198
  | 199 => some a199
  | 202 => some a202
  | 213 => some a213
  | 214 => some a214
  | 215 => some a215
  | 216 => some a216
  | 217 => some a217
  | 223 => some a223
  | 250 => some a250
  | 251 => some a251
  | 252 => some a252
  | 257 => some a257
  | 258 => some a258
  | 259 => some a259
  | 260 => some a260
  | 261 => some a261
  | 262 => some a262
  | 263 => some a263
  | 264 => some a264
  | 265 => some a265
  | 266 => some a266
  | 278 => some a278
  | 279 => some a279
  | 282 => some a282
  | 283 => some a283
  | 284 => some a284
  | 285 => some a285
  | 287 => some a287
  | 288 => some a288
  | 297 => some a297
  | 298 => some a298
  | 307 => some a307
  | 321 => some a321
  | 342 => some a342
  | 346 => some a346
  | 347 => some a347
  | 348 => some a348
  | 349 => some a349
  | 355 => some a355
  | 365 => some a365
  | 366 => some a366
  | 367 => some a367
  | 368 => some a368
  | 369 => some a369
  | 370 => some a370
  | 372 => some a372
  | 387 => some a387
  | 400 => some a400
  | 439 => some a439
  | 441 => some a441
  | _ => none
end Go.Proofs.YtlaoookdegmnnaaGreatDoor
