/- The functions of the seat as the abstract machine's code: no program in sight. -/
import Derived.Test.YtkmgkdjnkijceaaGreatDoorAmDefs
namespace Go.Proofs.YtkmgkdjnkijceaaGreatDoor
open Go.AM
set_option maxRecDepth 100000
def a3 : AFn :=
  (.mk (.seq (.region [(.mk (Option.some 4) (.mv (.const (.bool Bool.false))) Option.none)]) (.seq (.region [(.mk (Option.some 5) (.mv (.const (.pointer Option.none))) Option.none)])
  (.seq (.region [(.mk (Option.some 11) (.mv (.tmp 0)) Option.none), (.mk (Option.some 12) (.call 4 [(.const (.pointer Option.none)), (.tmp 11)]) Option.none), (.mk (Option.some
  10) (.mv (.tmp 12)) Option.none), (.mk (Option.some 13) (.extract (.tmp 10) 0) Option.none), (.mk (Option.some 14) (.extract (.tmp 10) 1) Option.none), (.mk (Option.some 6) (.mv
  (.tmp 13)) Option.none), (.mk (Option.some 7) (.mv (.tmp 14)) Option.none)]) (.seq (.region [(.mk (Option.some 16) (.mv (.tmp 5)) Option.none), (.mk (Option.some 17) (.mv (.tmp
  1)) Option.none), (.mk (Option.some 18) (.call 5 [(.tmp 16), (.tmp 17)]) Option.none), (.mk (Option.some 15) (.mv (.tmp 18)) Option.none), (.mk (Option.some 19) (.extract (.tmp
  15) 0) Option.none), (.mk (Option.some 20) (.extract (.tmp 15) 1) Option.none), (.mk (Option.some 8) (.mv (.tmp 19)) Option.none), (.mk (Option.some 9) (.mv (.tmp 20))
  Option.none)]) (.seq (.region [(.mk (Option.some 21) (.mv (.tmp 6)) Option.none), (.mk (Option.some 22) (.eq .ptr Bool.false (.tmp 21) (.const (.pointer Option.none)))
  Option.none), (.mk (Option.some 23) (.mv (.tmp 22)) Option.none), (.mk (Option.some 24) (.mv (.tmp 7)) (Option.some (23, Bool.true))), (.mk (Option.some 25) (.bin .eql (.tmp 24)
  (.const (.int .i64 1))) (Option.some (23, Bool.true))), (.mk (Option.some 26) (.pick (.tmp 23) (.tmp 25) (.const (.bool Bool.false))) Option.none), (.mk (Option.some 27) (.mv
  (.tmp 26)) Option.none), (.mk (Option.some 28) (.mv (.tmp 5)) (Option.some (27, Bool.true))), (.mk (Option.some 29) (.mv (.tmp 0)) (Option.some (27, Bool.true))), (.mk
  (Option.some 30) (.call 6 [(.tmp 28), (.tmp 29), (.const (.slice Option.none 0 0))]) (Option.some (27, Bool.true))), (.mk (Option.some 31) (.bin .eql (.tmp 30) (.const (.int .i64
  1))) (Option.some (27, Bool.true))), (.mk (Option.some 32) (.pick (.tmp 27) (.tmp 31) (.const (.bool Bool.false))) Option.none), (.mk (Option.some 33) (.mv (.tmp 32))
  Option.none), (.mk (Option.some 34) (.mv (.tmp 5)) (Option.some (33, Bool.true))), (.mk (Option.some 35) (.call 7 [(.tmp 34)]) (Option.some (33, Bool.true))), (.mk (Option.some
  36) (.bin .eql (.tmp 35) (.const (.int .i64 1))) (Option.some (33, Bool.true))), (.mk (Option.some 37) (.pick (.tmp 33) (.tmp 36) (.const (.bool Bool.false))) Option.none), (.mk
  (Option.some 38) (.mv (.tmp 37)) Option.none), (.mk (Option.some 39) (.mv (.tmp 9)) (Option.some (38, Bool.true))), (.mk (Option.some 40) (.un .not (.tmp 39)) (Option.some (38,
  Bool.true))), (.mk (Option.some 41) (.pick (.tmp 38) (.tmp 40) (.const (.bool Bool.false))) Option.none), (.mk (Option.some 42) (.mv (.tmp 41)) Option.none), (.mk (Option.some
  43) (.mv (.tmp 5)) (Option.some (42, Bool.true))), (.mk (Option.some 44) (.call 8 [(.tmp 43)]) (Option.some (42, Bool.true))), (.mk (Option.some 45) (.len (.tmp 44)) (Option.some
  (42, Bool.true))), (.mk (Option.some 46) (.bin .eql (.tmp 45) (.const (.int .i64 0))) (Option.some (42, Bool.true))), (.mk (Option.some 47) (.pick (.tmp 42) (.tmp 46) (.const
  (.bool Bool.false))) Option.none), (.mk (Option.some 48) (.mv (.tmp 47)) Option.none), (.mk (Option.some 49) (.mv (.tmp 5)) (Option.some (48, Bool.true))), (.mk (Option.some 50)
  (.call 9 [(.tmp 49)]) (Option.some (48, Bool.true))), (.mk (Option.some 51) (.bin .eql (.tmp 50) (.const (.int .i64 0))) (Option.some (48, Bool.true))), (.mk (Option.some 52)
  (.pick (.tmp 48) (.tmp 51) (.const (.bool Bool.false))) Option.none), (.mk (Option.some 53) (.mv (.tmp 52)) Option.none), (.mk (Option.some 54) (.mv (.tmp 5)) (Option.some (53,
  Bool.true))), (.mk (Option.some 55) (.call 10 [(.tmp 54)]) (Option.some (53, Bool.true))), (.mk (Option.some 56) (.bin .eql (.tmp 55) (.const (.int .i64 0))) (Option.some (53,
  Bool.true))), (.mk (Option.some 57) (.pick (.tmp 53) (.tmp 56) (.const (.bool Bool.false))) Option.none), (.mk (Option.some 58) (.mv (.tmp 57)) Option.none), (.mk (Option.some
  59) (.mv (.tmp 5)) (Option.some (58, Bool.true))), (.mk (Option.some 60) (.call 11 [(.tmp 59)]) (Option.some (58, Bool.true))), (.mk (Option.some 61) (.bin .eql (.tmp 60) (.const
  (.int .i64 0))) (Option.some (58, Bool.true))), (.mk (Option.some 62) (.pick (.tmp 58) (.tmp 61) (.const (.bool Bool.false))) Option.none), (.mk (Option.some 63) (.mv (.tmp 62))
  Option.none), (.mk (Option.some 64) (.mv (.tmp 5)) (Option.some (63, Bool.true))), (.mk (Option.some 65) (.call 12 [(.tmp 64)]) (Option.some (63, Bool.true))), (.mk (Option.some
  66) (.bin .eql (.tmp 65) (.const (.int .i64 0))) (Option.some (63, Bool.true))), (.mk (Option.some 67) (.pick (.tmp 63) (.tmp 66) (.const (.bool Bool.false))) Option.none), (.mk
  (Option.some 68) (.mv (.tmp 67)) Option.none), (.mk (Option.some 69) (.call 13 []) (Option.some (68, Bool.true))), (.mk (Option.some 70) (.pick (.tmp 68) (.tmp 69) (.const (.bool
  Bool.false))) Option.none), (.mk (Option.some 4) (.mv (.tmp 70)) Option.none)]) .ret))))) 71 [(.tmp 4)])
def a4 : AFn :=
  (.mk (.seq (.region [(.mk (Option.some 4) (.mv (.const (.pointer Option.none))) Option.none), (.mk (Option.some 5) (.mv (.const (.int .i64 0))) Option.none)]) (.seq (.region [(.mk
  (Option.some 15) (.mv (.tmp 0)) Option.none), (.mk (Option.some 16) (.mv (.tmp 1)) Option.none), (.mk (Option.some 17) (.call 14 [(.tmp 15), (.tmp 16)]) Option.none), (.mk
  (Option.some 14) (.mv (.tmp 17)) Option.none), (.mk (Option.some 18) (.extract (.tmp 14) 0) Option.none), (.mk (Option.some 19) (.extract (.tmp 14) 1) Option.none), (.mk
  (Option.some 6) (.mv (.tmp 18)) Option.none), (.mk (Option.some 7) (.mv (.tmp 19)) Option.none)]) (.seq (.seq (.region [(.mk (Option.some 20) (.mv (.tmp 7)) Option.none), (.mk
  (Option.some 21) (.bin .neq (.tmp 20) (.const (.int .i64 0))) Option.none)]) (.cond (.tmp 21) (.seq (.region [(.mk (Option.some 22) (.mv (.tmp 7)) Option.none), (.mk (Option.some
  4) (.mv (.const (.pointer Option.none))) Option.none), (.mk (Option.some 5) (.mv (.tmp 22)) Option.none)]) .ret) .skip)) (.seq (.region [(.mk (Option.some 23) (.mv (.tmp 6))
  Option.none), (.mk (Option.some 24) .mkMap Option.none), (.mk (Option.some 25) (.build [(.ptr Option.none), (.map Option.none), (.int .i64 0), (.int .i64 0), (.int .i64 0)] [(0,
  (1, (.tmp 23))), (1, (1, (.tmp 24)))]) Option.none), (.mk (Option.some 26) (.box (.tmp 25)) Option.none), (.mk (Option.some 8) (.mv (.tmp 26)) Option.none)]) (.seq (.seq (.region
  [(.mk (Option.some 27) (.mv (.tmp 6)) Option.none), (.mk (Option.some 28) (.call 15 [(.tmp 27)]) Option.none), (.mk (Option.some 9) (.mv (.tmp 28)) Option.none)]) (.seq (.region
  [(.mk (Option.some 29) (.mv (.tmp 9)) Option.none), (.mk (Option.some 30) (.len (.tmp 29)) Option.none), (.mk (Option.some 31) (.bin .gtr (.tmp 30) (.const (.int .i64 0)))
  Option.none)]) (.cond (.tmp 31) (.seq (.region [(.mk (Option.some 32) (.mv (.tmp 8)) Option.none), (.mk (Option.some 33) (.mv (.tmp 9)) Option.none), (.mk (Option.some 34) (.call
  16 [(.tmp 32), (.const (.int .i64 0)), (.tmp 33)]) Option.none), (.mk (Option.some 10) (.mv (.tmp 34)) Option.none)]) (.seq (.region [(.mk (Option.some 35) (.mv (.tmp 10))
  Option.none), (.mk (Option.some 36) (.eq (.iface Bool.true) Bool.true (.tmp 35) (.const .nilIface)) Option.none)]) (.cond (.tmp 36) (.seq (.region [(.mk (Option.some 4) (.mv
  (.const (.pointer Option.none))) Option.none), (.mk (Option.some 5) (.mv (.const (.int .i64 6))) Option.none)]) .ret) .skip))) .skip))) (.seq (.seq (.region [(.mk (Option.some
  37) (.mv (.tmp 6)) Option.none), (.mk (Option.some 38) (.call 17 [(.tmp 37)]) Option.none), (.mk (Option.some 39) (.len (.tmp 38)) Option.none), (.mk (Option.some 40) (.mv
  (.const (.int .i64 0))) Option.none)]) (.block 0 (.loop (.seq (.region [(.mk (Option.some 41) (.bin .lss (.tmp 40) (.tmp 39)) Option.none)]) (.seq (.cond (.tmp 41) .skip (.exit
  0)) (.seq (.block 1 (.seq (.region [(.mk (Option.some 42) (.mv (.tmp 40)) Option.none), (.mk (Option.some 43) (.atSlice 1 (.tmp 38) (.tmp 40)) Option.none), (.mk (Option.some 44)
  (.load 1 Bool.false (.tmp 43)) Option.none), (.mk (Option.some 11) (.mv (.tmp 42)) Option.none), (.mk (Option.some 12) (.mv (.tmp 44)) Option.none)]) (.seq (.region [(.mk
  (Option.some 45) (.mv (.tmp 11)) Option.none), (.mk (Option.some 46) (.mv (.tmp 8)) Option.none), (.mk (Option.some 47) (.mv (.tmp 11)) Option.none), (.mk (Option.some 48) (.bin
  .add (.tmp 47) (.const (.int .i64 1))) Option.none), (.mk (Option.some 49) (.mv (.tmp 12)) Option.none), (.mk (Option.some 50) (.call 16 [(.tmp 46), (.tmp 48), (.tmp 49)])
  Option.none), (.mk (Option.some 51) (.call 18 [(.tmp 45), (.tmp 50)]) Option.none), (.mk (Option.some 13) (.mv (.tmp 51)) Option.none)]) (.seq (.region [(.mk (Option.some 52)
  (.mv (.tmp 13)) Option.none), (.mk (Option.some 53) (.eq (.iface Bool.true) Bool.true (.tmp 52) (.const .nilIface)) Option.none)]) (.cond (.tmp 53) (.seq (.region [(.mk
  (Option.some 4) (.mv (.const (.pointer Option.none))) Option.none), (.mk (Option.some 5) (.mv (.const (.int .i64 6))) Option.none)]) .ret) .skip))))) (.region [(.mk (Option.some
  54) (.bin .add (.tmp 40) (.const (.int .i64 1))) Option.none), (.mk (Option.some 40) (.mv (.tmp 54)) Option.none)]))))))) (.seq (.region [(.mk (Option.some 55) (.mv (.tmp 8))
  Option.none), (.mk (Option.some 56) (.mv (.tmp 6)) Option.none), (.mk (Option.some 57) (.call 19 [(.tmp 56)]) Option.none), (.mk (Option.some 58) (.nilCheck (.tmp 55))
  Option.none), (.mk (Option.some 59) (.fieldAddr 4 (.tmp 58)) Option.none), (.mk Option.none (.store 1 (.tmp 59) (.tmp 57)) Option.none)]) (.seq (.region [(.mk (Option.some 60)
  (.mv (.tmp 8)) Option.none), (.mk (Option.some 4) (.mv (.tmp 60)) Option.none), (.mk (Option.some 5) (.mv (.const (.int .i64 0))) Option.none)]) .ret)))))))) 61 [(.tmp 4), (.tmp
  5)])
def a5 : AFn :=
  (.mk (.seq (.region [(.mk (Option.some 4) (.mv (.const (.int .i64 0))) Option.none), (.mk (Option.some 5) (.mv (.const (.bool Bool.false))) Option.none)]) (.seq (.seq (.region
  [(.mk (Option.some 7) (.mv (.tmp 0)) Option.none), (.mk (Option.some 8) (.eq .ptr Bool.false (.tmp 7) (.const (.pointer Option.none))) Option.none)]) (.cond (.tmp 8) (.seq
  (.region [(.mk (Option.some 4) (.mv (.const (.int .i64 0))) Option.none), (.mk (Option.some 5) (.mv (.const (.bool Bool.false))) Option.none)]) .ret) .skip)) (.seq (.region [(.mk
  (Option.some 9) (.mv (.tmp 0)) Option.none), (.mk (Option.some 10) (.nilCheck (.tmp 9)) Option.none), (.mk (Option.some 11) (.fieldAddr 1 (.tmp 10)) Option.none), (.mk
  (Option.some 12) (.load 1 Bool.false (.tmp 11)) Option.none), (.mk (Option.some 13) (.mv (.tmp 1)) Option.none), (.mk (Option.some 14) (.lookup .str (.agg [(.str []), (.int .i64
  0), (.bool Bool.false), (.int .i64 0)]) Bool.false (.tmp 12) (.tmp 13)) Option.none), (.mk (Option.some 6) (.alloc [(.str []), (.int .i64 0), (.bool Bool.false), (.int .i64 0)])
  Option.none), (.mk Option.none (.store 4 (.tmp 6) (.tmp 14)) Option.none)]) (.seq (.draws [((.mk (Option.some 15) (.fieldAddr 0 (.tmp 6)) Option.none), (0, 8)), ((.mk
  (Option.some 16) (.fieldAddr 1 (.tmp 15)) Option.none), (0, 8)), ((.mk (Option.some 17) (.load 1 Bool.false (.tmp 16)) Option.none), (0, 8)), ((.mk (Option.some 18) (.fieldAddr 0
  (.tmp 6)) Option.none), (0, 8)), ((.mk (Option.some 19) (.fieldAddr 2 (.tmp 18)) Option.none), (0, 8)), ((.mk (Option.some 20) (.load 1 Bool.false (.tmp 19)) Option.none), (0,
  8)), ((.mk (Option.some 4) (.mv (.tmp 17)) Option.none), (0, 8)), ((.mk (Option.some 5) (.mv (.tmp 20)) Option.none), (0, 8))]) .ret)))) 21 [(.tmp 4), (.tmp 5)])
def a6 : AFn :=
  (.mk (.seq (.region [(.mk (Option.some 6) (.mv (.const (.int .i64 0))) Option.none)]) (.seq (.seq (.region [(.mk (Option.some 9) (.mv (.tmp 0)) Option.none), (.mk (Option.some 10)
  (.eq .ptr Bool.false (.tmp 9) (.const (.pointer Option.none))) Option.none)]) (.cond (.tmp 10) (.seq (.region [(.mk (Option.some 6) (.mv (.const (.int .i64 1))) Option.none)])
  .ret) .skip)) (.seq (.seq (.region [(.mk (Option.some 11) (.mv (.tmp 0)) Option.none), (.mk (Option.some 12) (.mv (.tmp 1)) Option.none), (.mk (Option.some 13) (.mv (.tmp 2))
  Option.none), (.mk (Option.some 14) (.call 20 [(.tmp 11), (.tmp 12), (.tmp 13)]) Option.none), (.mk (Option.some 7) (.mv (.tmp 14)) Option.none)]) (.seq (.region [(.mk
  (Option.some 15) (.mv (.tmp 7)) Option.none), (.mk (Option.some 16) (.eq (.iface Bool.true) Bool.true (.tmp 15) (.const .nilIface)) Option.none)]) (.cond (.tmp 16) (.seq (.region
  [(.mk (Option.some 17) (.mv (.tmp 7)) Option.none), (.mk (Option.some 18) (.call 21 [(.tmp 17)]) Option.none), (.mk (Option.some 6) (.mv (.tmp 18)) Option.none)]) .ret) .skip)))
  (.seq (.seq (.draws [((.mk (Option.some 19) (.mv (.tmp 0)) Option.none), (0, 8)), ((.mk (Option.some 20) (.nilCheck (.tmp 19)) Option.none), (0, 8)), ((.mk (Option.some 21)
  (.fieldAddr 0 (.tmp 20)) Option.none), (0, 8)), ((.mk (Option.some 22) (.load 1 Bool.false (.tmp 21)) Option.none), (0, 8)), ((.mk (Option.some 23) (.mv (.tmp 1)) Option.none),
  (0, 6)), ((.mk (Option.some 24) (.mv (.tmp 2)) Option.none), (0, 6)), ((.mk (Option.some 25) (.call 23 [(.tmp 23), (.tmp 24)]) Option.none), (0, 7)), ((.mk (Option.some 26)
  (.buildSlice 1 1 [(.slice Option.none 0 0 0 0)] [(0, (1, (.tmp 25)))]) Option.none), (7, 8)), ((.mk (Option.some 27) (.call 22 [(.tmp 22), (.tmp 26)]) Option.none), (8, 10)),
  ((.mk (Option.some 8) (.mv (.tmp 27)) Option.none), (9, 10))]) (.seq (.region [(.mk (Option.some 28) (.mv (.tmp 8)) Option.none), (.mk (Option.some 29) (.bin .neq (.tmp 28)
  (.const (.int .i64 0))) Option.none)]) (.cond (.tmp 29) (.seq (.region [(.mk (Option.some 30) (.mv (.tmp 8)) Option.none), (.mk (Option.some 6) (.mv (.tmp 30)) Option.none)])
  .ret) .skip))) (.seq (.region [(.mk (Option.some 31) (.mv (.tmp 0)) Option.none), (.mk (Option.some 32) (.nilCheck (.tmp 31)) Option.none), (.mk (Option.some 33) (.fieldAddr 4
  (.tmp 32)) Option.none), (.mk (Option.some 34) (.load 1 Bool.false (.tmp 33)) Option.none), (.mk (Option.some 35) (.bin .add (.tmp 34) (.const (.int .i64 1))) Option.none), (.mk
  (Option.some 36) (.nilCheck (.tmp 31)) Option.none), (.mk (Option.some 37) (.fieldAddr 4 (.tmp 36)) Option.none), (.mk Option.none (.store 1 (.tmp 37) (.tmp 35)) Option.none)])
  (.seq (.region [(.mk (Option.some 38) (.mv (.tmp 0)) Option.none), (.mk (Option.some 39) (.mv (.tmp 0)) Option.none), (.mk (Option.some 40) (.nilCheck (.tmp 39)) Option.none),
  (.mk (Option.some 41) (.fieldAddr 4 (.tmp 40)) Option.none), (.mk (Option.some 42) (.load 1 Bool.false (.tmp 41)) Option.none), (.mk (Option.some 43) (.mv (.tmp 1)) Option.none),
  (.mk (Option.some 44) (.mv (.tmp 2)) Option.none), (.mk (Option.some 45) (.call 24 [(.tmp 38), (.tmp 42), (.tmp 43), (.tmp 44)]) Option.none)]) (.seq (.region [(.mk (Option.some
  6) (.mv (.const (.int .i64 0))) Option.none)]) .ret))))))) 46 [(.tmp 6)])
def a7 : AFn :=
  (.mk (.seq (.region [(.mk (Option.some 2) (.mv (.const (.int .i64 0))) Option.none)]) (.seq (.seq (.region [(.mk (Option.some 5) (.mv (.tmp 0)) Option.none), (.mk (Option.some 6)
  (.eq .ptr Bool.false (.tmp 5) (.const (.pointer Option.none))) Option.none)]) (.cond (.tmp 6) (.seq (.region [(.mk (Option.some 2) (.mv (.const (.int .i64 1))) Option.none)])
  .ret) .skip)) (.seq (.region [(.mk (Option.some 7) (.mv (.tmp 0)) Option.none), (.mk (Option.some 8) (.call 25 [(.tmp 7)]) Option.none), (.mk (Option.some 3) (.mv (.tmp 8))
  Option.none)]) (.seq (.draws [((.mk (Option.some 9) (.mv (.tmp 0)) Option.none), (0, 10)), ((.mk (Option.some 10) (.nilCheck (.tmp 9)) Option.none), (0, 10)), ((.mk (Option.some
  11) (.fieldAddr 0 (.tmp 10)) Option.none), (0, 10)), ((.mk (Option.some 12) (.load 1 Bool.false (.tmp 11)) Option.none), (0, 10)), ((.mk (Option.some 13) (.mv (.tmp 0))
  Option.none), (0, 9)), ((.mk (Option.some 14) (.nilCheck (.tmp 13)) Option.none), (0, 9)), ((.mk (Option.some 15) (.fieldAddr 3 (.tmp 14)) Option.none), (0, 9)), ((.mk
  (Option.some 16) (.load 1 Bool.false (.tmp 15)) Option.none), (0, 9)), ((.mk (Option.some 17) (.mv (.tmp 3)) Option.none), (0, 9)), ((.mk (Option.some 18) (.call 23 [(.tmp 16),
  (.tmp 17)]) Option.none), (0, 10)), ((.mk (Option.some 19) (.call 26 [(.tmp 12), (.tmp 18)]) Option.none), (10, 12)), ((.mk (Option.some 4) (.mv (.tmp 19)) Option.none), (11,
  12))]) (.seq (.seq (.region [(.mk (Option.some 20) (.mv (.tmp 4)) Option.none), (.mk (Option.some 21) (.bin .neq (.tmp 20) (.const (.int .i64 0))) Option.none)]) (.cond (.tmp 21)
  (.seq (.region [(.mk (Option.some 22) (.mv (.tmp 4)) Option.none), (.mk (Option.some 2) (.mv (.tmp 22)) Option.none)]) .ret) .skip)) (.seq (.region [(.mk (Option.some 23) (.mv
  (.tmp 0)) Option.none), (.mk (Option.some 24) .mkMap Option.none), (.mk (Option.some 25) (.nilCheck (.tmp 23)) Option.none), (.mk (Option.some 26) (.fieldAddr 1 (.tmp 25))
  Option.none), (.mk Option.none (.store 1 (.tmp 26) (.tmp 24)) Option.none)]) (.seq (.region [(.mk (Option.some 27) (.mv (.tmp 0)) Option.none), (.mk (Option.some 28) (.mv (.tmp
  0)) Option.none), (.mk (Option.some 29) (.nilCheck (.tmp 27)) Option.none), (.mk (Option.some 30) (.fieldAddr 2 (.tmp 29)) Option.none), (.mk Option.none (.store 1 (.tmp 30)
  (.const (.int .i64 0))) Option.none), (.mk (Option.some 31) (.nilCheck (.tmp 28)) Option.none), (.mk (Option.some 32) (.fieldAddr 4 (.tmp 31)) Option.none), (.mk Option.none
  (.store 1 (.tmp 32) (.const (.int .i64 0))) Option.none)]) (.seq (.region [(.mk (Option.some 33) (.mv (.tmp 0)) Option.none), (.mk (Option.some 34) (.mv (.tmp 0)) Option.none),
  (.mk (Option.some 35) (.nilCheck (.tmp 34)) Option.none), (.mk (Option.some 36) (.fieldAddr 3 (.tmp 35)) Option.none), (.mk (Option.some 37) (.load 1 Bool.false (.tmp 36))
  Option.none), (.mk (Option.some 38) (.mv (.tmp 3)) Option.none), (.mk (Option.some 39) (.call 24 [(.tmp 33), (.const (.int .i64 0)), (.tmp 37), (.tmp 38)]) Option.none)]) (.seq
  (.region [(.mk (Option.some 2) (.mv (.const (.int .i64 0))) Option.none)]) .ret))))))))) 40 [(.tmp 2)])
def a8 : AFn :=
  (.mk (.seq (.region [(.mk (Option.some 2) (.mv (.const (.slice Option.none 0 0))) Option.none)]) (.seq (.seq (.region [(.mk (Option.some 6) (.mv (.tmp 0)) Option.none), (.mk
  (Option.some 7) (.eq .ptr Bool.false (.tmp 6) (.const (.pointer Option.none))) Option.none)]) (.cond (.tmp 7) (.seq (.region [(.mk (Option.some 2) (.mv (.const (.slice
  Option.none 0 0))) Option.none)]) .ret) .skip)) (.seq (.region [(.mk (Option.some 3) (.mv (.const (.slice Option.none 0 0))) Option.none)]) (.seq (.seq (.region [(.mk
  (Option.some 8) (.mv (.tmp 0)) Option.none), (.mk (Option.some 9) (.call 25 [(.tmp 8)]) Option.none), (.mk (Option.some 10) (.len (.tmp 9)) Option.none), (.mk (Option.some 11)
  (.mv (.const (.int .i64 0))) Option.none)]) (.block 0 (.loop (.seq (.region [(.mk (Option.some 12) (.bin .lss (.tmp 11) (.tmp 10)) Option.none)]) (.seq (.cond (.tmp 12) .skip
  (.exit 0)) (.seq (.block 1 (.seq (.region [(.mk (Option.some 13) (.atSlice 3 (.tmp 9) (.tmp 11)) Option.none), (.mk (Option.some 14) (.load 3 Bool.true (.tmp 13)) Option.none),
  (.mk (Option.some 5) (.alloc [(.str []), (.int .i64 0), (.bool Bool.false)]) Option.none), (.mk Option.none (.store 3 (.tmp 5) (.tmp 14)) Option.none)]) (.region [(.mk
  (Option.some 15) (.mv (.tmp 3)) Option.none), (.mk (Option.some 16) (.fieldAddr 0 (.tmp 5)) Option.none), (.mk (Option.some 17) (.load 1 Bool.false (.tmp 16)) Option.none), (.mk
  (Option.some 18) (.fieldAddr 1 (.tmp 5)) Option.none), (.mk (Option.some 19) (.load 1 Bool.false (.tmp 18)) Option.none), (.mk (Option.some 20) (.build [(.str []), (.int .i64 0)]
  [(0, (1, (.tmp 17))), (1, (1, (.tmp 19)))]) Option.none), (.mk (Option.some 21) (.buildSlice 1 2 [(.str []), (.int .i64 0)] [(0, (2, (.tmp 20)))]) Option.none), (.mk (Option.some
  22) (.append Bool.false 2 24 (.tmp 15) (.tmp 21)) Option.none), (.mk (Option.some 3) (.mv (.tmp 22)) Option.none)]))) (.region [(.mk (Option.some 23) (.bin .add (.tmp 11) (.const
  (.int .i64 1))) Option.none), (.mk (Option.some 11) (.mv (.tmp 23)) Option.none)]))))))) (.seq (.region [(.mk (Option.some 24) (.mv (.tmp 3)) Option.none), (.mk (Option.some 2)
  (.mv (.tmp 24)) Option.none)]) .ret))))) 25 [(.tmp 2)])
def a9 : AFn :=
  (.mk (.seq (.region [(.mk (Option.some 2) (.mv (.const (.int .i64 0))) Option.none)]) (.seq (.region [(.mk (Option.some 3) (.mv (.tmp 0)) Option.none), (.mk (Option.some 4) (.call
  10 [(.tmp 3)]) Option.none), (.mk (Option.some 2) (.mv (.tmp 4)) Option.none)]) .ret)) 5 [(.tmp 2)])
def a10 : AFn :=
  (.mk (.seq (.region [(.mk (Option.some 2) (.mv (.const (.int .i64 0))) Option.none)]) (.seq (.seq (.region [(.mk (Option.some 3) (.mv (.tmp 0)) Option.none), (.mk (Option.some 4)
  (.eq .ptr Bool.false (.tmp 3) (.const (.pointer Option.none))) Option.none)]) (.cond (.tmp 4) (.seq (.region [(.mk (Option.some 2) (.mv (.const (.int .i64 0))) Option.none)])
  .ret) .skip)) (.seq (.region [(.mk (Option.some 5) (.mv (.tmp 0)) Option.none), (.mk (Option.some 6) (.call 25 [(.tmp 5)]) Option.none), (.mk (Option.some 7) (.len (.tmp 6))
  Option.none), (.mk (Option.some 2) (.mv (.tmp 7)) Option.none)]) .ret))) 8 [(.tmp 2)])
def a11 : AFn :=
  (.mk (.seq (.region [(.mk (Option.some 2) (.mv (.const (.int .i64 0))) Option.none)]) (.seq (.seq (.region [(.mk (Option.some 3) (.mv (.tmp 0)) Option.none), (.mk (Option.some 4)
  (.eq .ptr Bool.false (.tmp 3) (.const (.pointer Option.none))) Option.none)]) (.cond (.tmp 4) (.seq (.region [(.mk (Option.some 2) (.mv (.const (.int .i64 0))) Option.none)])
  .ret) .skip)) (.seq (.draws [((.mk (Option.some 5) (.mv (.tmp 0)) Option.none), (0, 8)), ((.mk (Option.some 6) (.nilCheck (.tmp 5)) Option.none), (0, 8)), ((.mk (Option.some 7)
  (.fieldAddr 2 (.tmp 6)) Option.none), (0, 8)), ((.mk (Option.some 8) (.load 1 Bool.false (.tmp 7)) Option.none), (0, 8)), ((.mk (Option.some 9) (.mv (.tmp 0)) Option.none), (0,
  5)), ((.mk (Option.some 10) (.call 10 [(.tmp 9)]) Option.none), (0, 8)), ((.mk (Option.some 11) (.bin .sub (.tmp 8) (.tmp 10)) Option.none), (6, 8)), ((.mk (Option.some 2) (.mv
  (.tmp 11)) Option.none), (6, 8))]) .ret))) 12 [(.tmp 2)])
def a12 : AFn :=
  (.mk (.seq (.region [(.mk (Option.some 2) (.mv (.const (.int .i64 0))) Option.none)]) (.seq (.seq (.region [(.mk (Option.some 3) (.mv (.tmp 0)) Option.none), (.mk (Option.some 4)
  (.eq .ptr Bool.false (.tmp 3) (.const (.pointer Option.none))) Option.none)]) (.cond (.tmp 4) (.seq (.region [(.mk (Option.some 2) (.mv (.const (.int .i64 0))) Option.none)])
  .ret) .skip)) (.seq (.region [(.mk (Option.some 5) (.mv (.tmp 0)) Option.none), (.mk (Option.some 6) (.nilCheck (.tmp 5)) Option.none), (.mk (Option.some 7) (.fieldAddr 3 (.tmp
  6)) Option.none), (.mk (Option.some 8) (.load 1 Bool.false (.tmp 7)) Option.none), (.mk (Option.some 2) (.mv (.tmp 8)) Option.none)]) .ret))) 9 [(.tmp 2)])
def a13 : AFn :=
  (.mk (.seq (.region [(.mk (Option.some 0) (.mv (.const (.bool Bool.false))) Option.none)]) (.seq (.region [(.mk (Option.some 10) (.call 27 [(.const (.int .i64 1000))])
  Option.none), (.mk (Option.some 9) (.mv (.tmp 10)) Option.none), (.mk (Option.some 11) (.extract (.tmp 9) 0) Option.none), (.mk (Option.some 12) (.extract (.tmp 9) 1)
  Option.none), (.mk (Option.some 1) (.mv (.tmp 11)) Option.none), (.mk (Option.some 2) (.mv (.tmp 12)) Option.none)]) (.seq (.region [(.mk (Option.some 14) (.mv (.tmp 1))
  Option.none), (.mk (Option.some 15) (.call 4 [(.tmp 14), (.const (.int .i64 100))]) Option.none), (.mk (Option.some 13) (.mv (.tmp 15)) Option.none), (.mk (Option.some 16)
  (.extract (.tmp 13) 0) Option.none), (.mk (Option.some 17) (.extract (.tmp 13) 1) Option.none), (.mk (Option.some 3) (.mv (.tmp 16)) Option.none), (.mk (Option.some 4) (.mv (.tmp
  17)) Option.none)]) (.seq (.seq (.region [(.mk (Option.some 18) (.mv (.tmp 4)) Option.none), (.mk (Option.some 19) (.bin .neq (.tmp 18) (.const (.int .i64 0))) Option.none), (.mk
  (Option.some 20) (.mv (.tmp 19)) Option.none), (.mk (Option.some 21) (.mv (.tmp 3)) (Option.some (20, Bool.false))), (.mk (Option.some 22) (.eq .ptr Bool.false (.tmp 21) (.const
  (.pointer Option.none))) (Option.some (20, Bool.false))), (.mk (Option.some 23) (.pick (.tmp 20) (.const (.bool Bool.true)) (.tmp 22)) Option.none)]) (.cond (.tmp 23) (.seq
  (.region [(.mk (Option.some 0) (.mv (.const (.bool Bool.false))) Option.none)]) .ret) .skip)) (.seq (.region [(.mk (Option.some 24) (.mv (.tmp 3)) Option.none), (.mk (Option.some
  25) (.build [(.str []), (.int .i64 0), (.bool Bool.false)] [(0, (1, (.const (.string (ByteArray.mk #[120]))))), (1, (1, (.const (.int .i64 5)))), (2, (1, (.const (.bool
  Bool.true))))]) Option.none), (.mk (Option.some 26) (.build [(.str []), (.int .i64 0), (.bool Bool.false)] [(0, (1, (.const (.string (ByteArray.mk #[121]))))), (1, (1, (.const
  (.int .i64 6)))), (2, (1, (.const (.bool Bool.true))))]) Option.none), (.mk (Option.some 27) (.buildSlice 2 3 [(.str []), (.int .i64 0), (.bool Bool.false), (.str []), (.int .i64
  0), (.bool Bool.false)] [(0, (3, (.tmp 25))), (3, (3, (.tmp 26)))]) Option.none), (.mk (Option.some 28) (.call 6 [(.tmp 24), (.const (.int .i64 1)), (.tmp 27)]) Option.none),
  (.mk (Option.some 5) (.mv (.tmp 28)) Option.none)]) (.seq (.region [(.mk (Option.some 29) (.mv (.tmp 3)) Option.none), (.mk (Option.some 30) (.build [(.str []), (.int .i64 0),
  (.bool Bool.false)] [(0, (1, (.const (.string (ByteArray.mk #[120])))))]) Option.none), (.mk (Option.some 31) (.buildSlice 1 3 [(.str []), (.int .i64 0), (.bool Bool.false)] [(0,
  (3, (.tmp 30)))]) Option.none), (.mk (Option.some 32) (.call 6 [(.tmp 29), (.const (.int .i64 2)), (.tmp 31)]) Option.none), (.mk (Option.some 6) (.mv (.tmp 32)) Option.none)])
  (.seq (.region [(.mk (Option.some 33) (.mv (.tmp 3)) Option.none), (.mk (Option.some 34) (.call 8 [(.tmp 33)]) Option.none), (.mk (Option.some 7) (.mv (.tmp 34)) Option.none)])
  (.seq (.seq (.region [(.mk (Option.some 35) (.mv (.tmp 5)) Option.none), (.mk (Option.some 36) (.bin .neq (.tmp 35) (.const (.int .i64 0))) Option.none), (.mk (Option.some 37)
  (.mv (.tmp 36)) Option.none), (.mk (Option.some 38) (.mv (.tmp 6)) (Option.some (37, Bool.false))), (.mk (Option.some 39) (.bin .neq (.tmp 38) (.const (.int .i64 0)))
  (Option.some (37, Bool.false))), (.mk (Option.some 40) (.pick (.tmp 37) (.const (.bool Bool.true)) (.tmp 39)) Option.none), (.mk (Option.some 41) (.mv (.tmp 40)) Option.none),
  (.mk (Option.some 42) (.mv (.tmp 7)) (Option.some (41, Bool.false))), (.mk (Option.some 43) (.len (.tmp 42)) (Option.some (41, Bool.false))), (.mk (Option.some 44) (.bin .neq
  (.tmp 43) (.const (.int .i64 1))) (Option.some (41, Bool.false))), (.mk (Option.some 45) (.pick (.tmp 41) (.const (.bool Bool.true)) (.tmp 44)) Option.none), (.mk (Option.some
  46) (.mv (.tmp 45)) Option.none), (.mk (Option.some 47) (.mv (.tmp 7)) (Option.some (46, Bool.false))), (.mk (Option.some 48) (.atSlice 2 (.tmp 47) (.const (.int .i64 0)))
  (Option.some (46, Bool.false))), (.mk (Option.some 49) (.fieldAddr 1 (.tmp 48)) (Option.some (46, Bool.false))), (.mk (Option.some 50) (.load 1 Bool.false (.tmp 49)) (Option.some
  (46, Bool.false))), (.mk (Option.some 51) (.bin .neq (.tmp 50) (.const (.int .i64 6))) (Option.some (46, Bool.false))), (.mk (Option.some 52) (.pick (.tmp 46) (.const (.bool
  Bool.true)) (.tmp 51)) Option.none), (.mk (Option.some 53) (.mv (.tmp 52)) Option.none), (.mk (Option.some 54) (.mv (.tmp 3)) (Option.some (53, Bool.false))), (.mk (Option.some
  55) (.call 10 [(.tmp 54)]) (Option.some (53, Bool.false))), (.mk (Option.some 56) (.bin .neq (.tmp 55) (.const (.int .i64 1))) (Option.some (53, Bool.false))), (.mk (Option.some
  57) (.pick (.tmp 53) (.const (.bool Bool.true)) (.tmp 56)) Option.none), (.mk (Option.some 58) (.mv (.tmp 57)) Option.none), (.mk (Option.some 59) (.mv (.tmp 3)) (Option.some
  (58, Bool.false))), (.mk (Option.some 60) (.call 11 [(.tmp 59)]) (Option.some (58, Bool.false))), (.mk (Option.some 61) (.bin .neq (.tmp 60) (.const (.int .i64 2))) (Option.some
  (58, Bool.false))), (.mk (Option.some 62) (.pick (.tmp 58) (.const (.bool Bool.true)) (.tmp 61)) Option.none), (.mk (Option.some 63) (.mv (.tmp 62)) Option.none), (.mk
  (Option.some 64) (.mv (.tmp 3)) (Option.some (63, Bool.false))), (.mk (Option.some 65) (.call 12 [(.tmp 64)]) (Option.some (63, Bool.false))), (.mk (Option.some 66) (.bin .neq
  (.tmp 65) (.const (.int .i64 2))) (Option.some (63, Bool.false))), (.mk (Option.some 67) (.pick (.tmp 63) (.const (.bool Bool.true)) (.tmp 66)) Option.none)]) (.cond (.tmp 67)
  (.seq (.region [(.mk (Option.some 0) (.mv (.const (.bool Bool.false))) Option.none)]) .ret) .skip)) (.seq (.region [(.mk (Option.some 68) (.mv (.tmp 3)) Option.none), (.mk
  (Option.some 69) (.call 7 [(.tmp 68)]) Option.none), (.mk (Option.some 8) (.mv (.tmp 69)) Option.none)]) (.seq (.region [(.mk (Option.some 70) (.mv (.tmp 8)) Option.none), (.mk
  (Option.some 71) (.bin .eql (.tmp 70) (.const (.int .i64 0))) Option.none), (.mk (Option.some 72) (.mv (.tmp 71)) Option.none), (.mk (Option.some 73) (.mv (.tmp 3)) (Option.some
  (72, Bool.true))), (.mk (Option.some 74) (.call 10 [(.tmp 73)]) (Option.some (72, Bool.true))), (.mk (Option.some 75) (.bin .eql (.tmp 74) (.const (.int .i64 1))) (Option.some
  (72, Bool.true))), (.mk (Option.some 76) (.pick (.tmp 72) (.tmp 75) (.const (.bool Bool.false))) Option.none), (.mk (Option.some 77) (.mv (.tmp 76)) Option.none), (.mk
  (Option.some 78) (.mv (.tmp 3)) (Option.some (77, Bool.true))), (.mk (Option.some 79) (.call 11 [(.tmp 78)]) (Option.some (77, Bool.true))), (.mk (Option.some 80) (.bin .eql
  (.tmp 79) (.const (.int .i64 0))) (Option.some (77, Bool.true))), (.mk (Option.some 81) (.pick (.tmp 77) (.tmp 80) (.const (.bool Bool.false))) Option.none), (.mk (Option.some
  82) (.mv (.tmp 81)) Option.none), (.mk (Option.some 83) (.mv (.tmp 3)) (Option.some (82, Bool.true))), (.mk (Option.some 84) (.call 12 [(.tmp 83)]) (Option.some (82,
  Bool.true))), (.mk (Option.some 85) (.bin .eql (.tmp 84) (.const (.int .i64 2))) (Option.some (82, Bool.true))), (.mk (Option.some 86) (.pick (.tmp 82) (.tmp 85) (.const (.bool
  Bool.false))) Option.none), (.mk (Option.some 0) (.mv (.tmp 86)) Option.none)]) .ret)))))))))) 87 [(.tmp 0)])
def a14 : AFn :=
  (.mk (.seq (.region [(.mk (Option.some 4) (.mv (.const (.pointer Option.none))) Option.none), (.mk (Option.some 5) (.mv (.const (.int .i64 0))) Option.none)]) (.seq (.block 0 (.seq
  (.region [(.mk (Option.some 9) (.mv (.tmp 0)) Option.none), (.mk (Option.some 10) (.eq .ptr Bool.false (.tmp 9) (.const (.pointer Option.none))) Option.none), (.mk (Option.some
  8) (.mv (.tmp 10)) Option.none)]) (.cond (.tmp 8) (.seq (.region [(.mk (Option.some 4) (.mv (.const (.pointer Option.none))) Option.none), (.mk (Option.some 5) (.mv (.const (.int
  .i64 1))) Option.none)]) .ret) (.seq (.region [(.mk (Option.some 12) (.mv (.tmp 1)) Option.none), (.mk (Option.some 13) (.bin .lss (.tmp 12) (.const (.int .i64 16)))
  Option.none), (.mk (Option.some 14) (.mv (.tmp 13)) Option.none), (.mk (Option.some 15) (.mv (.tmp 1)) (Option.some (14, Bool.false))), (.mk (Option.some 16) (.bin .gtr (.tmp 15)
  (.const (.int .i64 1048576))) (Option.some (14, Bool.false))), (.mk (Option.some 17) (.pick (.tmp 14) (.const (.bool Bool.true)) (.tmp 16)) Option.none), (.mk (Option.some 11)
  (.mv (.tmp 17)) Option.none)]) (.cond (.tmp 11) (.seq (.region [(.mk (Option.some 4) (.mv (.const (.pointer Option.none))) Option.none), (.mk (Option.some 5) (.mv (.const (.int
  .i64 2))) Option.none)]) .ret) .skip))))) (.seq (.region [(.mk (Option.some 18) (.mv (.tmp 0)) Option.none), (.mk (Option.some 19) (.mv (.tmp 1)) Option.none), (.mk (Option.some
  20) (.build [(.ptr Option.none), (.int .i64 0), (.int .i64 0), (.slice Option.none 0 0 0 0), (.slice Option.none 0 0 0 0)] [(0, (1, (.tmp 18))), (1, (1, (.tmp 19))), (2, (1,
  (.const (.int .i64 (-1)))))]) Option.none), (.mk (Option.some 21) (.box (.tmp 20)) Option.none), (.mk (Option.some 6) (.mv (.tmp 21)) Option.none)]) (.seq (.region [(.mk
  (Option.some 22) (.mv (.tmp 6)) Option.none), (.mk (Option.some 23) (.call 28 [(.tmp 22)]) Option.none), (.mk (Option.some 7) (.mv (.tmp 23)) Option.none)]) (.seq (.seq (.region
  [(.mk (Option.some 24) (.mv (.tmp 7)) Option.none), (.mk (Option.some 25) (.eq (.iface Bool.true) Bool.false (.tmp 24) (.const .nilIface)) Option.none)]) (.cond (.tmp 25)
  (.region [(.mk (Option.some 26) (.mv (.tmp 6)) Option.none), (.mk (Option.some 27) (.call 29 [(.tmp 26)]) Option.none), (.mk (Option.some 7) (.mv (.tmp 27)) Option.none)])
  .skip)) (.seq (.seq (.region [(.mk (Option.some 28) (.mv (.tmp 7)) Option.none), (.mk (Option.some 29) (.eq (.iface Bool.true) Bool.true (.tmp 28) (.const .nilIface))
  Option.none)]) (.cond (.tmp 29) (.seq (.region [(.mk (Option.some 30) (.mv (.tmp 7)) Option.none), (.mk (Option.some 31) (.call 21 [(.tmp 30)]) Option.none), (.mk (Option.some 4)
  (.mv (.const (.pointer Option.none))) Option.none), (.mk (Option.some 5) (.mv (.tmp 31)) Option.none)]) .ret) .skip)) (.seq (.region [(.mk (Option.some 32) (.mv (.tmp 6))
  Option.none), (.mk (Option.some 4) (.mv (.tmp 32)) Option.none), (.mk (Option.some 5) (.mv (.const (.int .i64 0))) Option.none)]) .ret))))))) 33 [(.tmp 4), (.tmp 5)])
def a15 : AFn :=
  (.mk (.seq (.region [(.mk (Option.some 2) (.mv (.const (.slice Option.none 0 0))) Option.none)]) (.seq (.seq (.region [(.mk (Option.some 3) (.mv (.tmp 0)) Option.none), (.mk
  (Option.some 4) (.eq .ptr Bool.false (.tmp 3) (.const (.pointer Option.none))) Option.none)]) (.cond (.tmp 4) (.seq (.region [(.mk (Option.some 2) (.mv (.const (.slice
  Option.none 0 0))) Option.none)]) .ret) .skip)) (.seq (.region [(.mk (Option.some 5) (.mv (.tmp 0)) Option.none), (.mk (Option.some 6) (.nilCheck (.tmp 5)) Option.none), (.mk
  (Option.some 7) (.fieldAddr 3 (.tmp 6)) Option.none), (.mk (Option.some 8) (.load 1 Bool.false (.tmp 7)) Option.none), (.mk (Option.some 9) (.call 30 [(.tmp 8)]) Option.none),
  (.mk (Option.some 2) (.mv (.tmp 9)) Option.none)]) .ret))) 10 [(.tmp 2)])
def a17 : AFn :=
  (.mk (.seq (.region [(.mk (Option.some 2) (.mv (.const (.slice Option.none 0 0))) Option.none)]) (.seq (.seq (.region [(.mk (Option.some 6) (.mv (.tmp 0)) Option.none), (.mk
  (Option.some 7) (.eq .ptr Bool.false (.tmp 6) (.const (.pointer Option.none))) Option.none)]) (.cond (.tmp 7) (.seq (.region [(.mk (Option.some 2) (.mv (.const (.slice
  Option.none 0 0))) Option.none)]) .ret) .skip)) (.seq (.region [(.mk (Option.some 3) (.mv (.const (.slice Option.none 0 0))) Option.none)]) (.seq (.seq (.region [(.mk
  (Option.some 8) (.mv (.tmp 0)) Option.none), (.mk (Option.some 9) (.nilCheck (.tmp 8)) Option.none), (.mk (Option.some 10) (.fieldAddr 4 (.tmp 9)) Option.none), (.mk (Option.some
  11) (.load 1 Bool.false (.tmp 10)) Option.none), (.mk (Option.some 12) (.len (.tmp 11)) Option.none), (.mk (Option.some 13) (.mv (.const (.int .i64 0))) Option.none)]) (.block 0
  (.loop (.seq (.region [(.mk (Option.some 14) (.bin .lss (.tmp 13) (.tmp 12)) Option.none)]) (.seq (.cond (.tmp 14) .skip (.exit 0)) (.seq (.block 1 (.seq (.region [(.mk
  (Option.some 15) (.atSlice 1 (.tmp 11) (.tmp 13)) Option.none), (.mk (Option.some 16) (.load 1 Bool.false (.tmp 15)) Option.none), (.mk (Option.some 5) (.mv (.tmp 16))
  Option.none)]) (.region [(.mk (Option.some 17) (.mv (.tmp 3)) Option.none), (.mk (Option.some 18) (.mv (.tmp 5)) Option.none), (.mk (Option.some 19) (.call 30 [(.tmp 18)])
  Option.none), (.mk (Option.some 20) (.buildSlice 1 1 [(.slice Option.none 0 0 0 0)] [(0, (1, (.tmp 19)))]) Option.none), (.mk (Option.some 21) (.append Bool.false 1 24 (.tmp 17)
  (.tmp 20)) Option.none), (.mk (Option.some 3) (.mv (.tmp 21)) Option.none)]))) (.region [(.mk (Option.some 22) (.bin .add (.tmp 13) (.const (.int .i64 1))) Option.none), (.mk
  (Option.some 13) (.mv (.tmp 22)) Option.none)]))))))) (.seq (.region [(.mk (Option.some 23) (.mv (.tmp 3)) Option.none), (.mk (Option.some 2) (.mv (.tmp 23)) Option.none)])
  .ret))))) 24 [(.tmp 2)])
def a18 : AFn :=
  (.mk (.seq (.region [(.mk (Option.some 4) (.mv (.const .nilIface)) Option.none)]) (.seq (.seq (.region [(.mk (Option.some 5) (.mv (.tmp 1)) Option.none), (.mk (Option.some 6) (.eq
  (.iface Bool.true) Bool.false (.tmp 5) (.const .nilIface)) Option.none)]) (.cond (.tmp 6) (.seq (.region [(.mk (Option.some 4) (.mv (.const .nilIface)) Option.none)]) .ret)
  .skip)) (.seq (.region [(.mk (Option.some 7) (.mv (.tmp 1)) Option.none), (.mk (Option.some 8) (.build [.nilIface] [(0, (1, (.tmp 7)))]) Option.none), (.mk (Option.some 9) (.mv
  (.tmp 0)) Option.none), (.mk (Option.some 10) (.build [.nilIface, (.int .i64 0)] [(0, (1, (.tmp 8))), (1, (1, (.tmp 9)))]) Option.none), (.mk (Option.some 11) (.box (.tmp 10))
  Option.none), (.mk (Option.some 12) (.mkIface 79 (.tmp 11)) Option.none), (.mk (Option.some 4) (.mv (.tmp 12)) Option.none)]) .ret))) 13 [(.tmp 4)])
def a19 : AFn :=
  (.mk (.seq (.region [(.mk (Option.some 2) (.mv (.const (.int .i64 0))) Option.none)]) (.seq (.seq (.region [(.mk (Option.some 3) (.mv (.tmp 0)) Option.none), (.mk (Option.some 4)
  (.eq .ptr Bool.false (.tmp 3) (.const (.pointer Option.none))) Option.none)]) (.cond (.tmp 4) (.seq (.region [(.mk (Option.some 2) (.mv (.const (.int .i64 0))) Option.none)])
  .ret) .skip)) (.seq (.region [(.mk (Option.some 5) (.mv (.tmp 0)) Option.none), (.mk (Option.some 6) (.nilCheck (.tmp 5)) Option.none), (.mk (Option.some 7) (.fieldAddr 4 (.tmp
  6)) Option.none), (.mk (Option.some 8) (.load 1 Bool.false (.tmp 7)) Option.none), (.mk (Option.some 9) (.len (.tmp 8)) Option.none), (.mk (Option.some 2) (.mv (.tmp 9))
  Option.none)]) .ret))) 10 [(.tmp 2)])
def a20 : AFn :=
  (.mk (.seq (.region [(.mk (Option.some 6) (.mv (.const .nilIface)) Option.none)]) (.seq (.seq (.region [(.mk (Option.some 7) (.mv (.tmp 1)) Option.none), (.mk (Option.some 8) (.bin
  .lss (.tmp 7) (.const (.int .i64 0))) Option.none), (.mk (Option.some 9) (.mv (.tmp 8)) Option.none), (.mk (Option.some 10) (.mv (.tmp 1)) (Option.some (9, Bool.false))), (.mk
  (Option.some 11) (.bin .gtr (.tmp 10) (.const (.int .i64 1073741824))) (Option.some (9, Bool.false))), (.mk (Option.some 12) (.pick (.tmp 9) (.const (.bool Bool.true)) (.tmp 11))
  Option.none)]) (.cond (.tmp 12) (.seq (.region [(.mk (Option.some 13) (.mv (.tmp 1)) Option.none), (.mk (Option.some 14) (.call 35 [(.const (.int .i64 2))]) Option.none), (.mk
  (Option.some 15) (.call 39 [(.const (.int .i64 1073741824)), (.tmp 13), (.tmp 14)]) Option.none), (.mk (Option.some 6) (.mv (.tmp 15)) Option.none)]) .ret) .skip)) (.seq (.region
  [(.mk (Option.some 16) (.mv (.tmp 0)) Option.none), (.mk (Option.some 17) (.call 8 [(.tmp 16)]) Option.none), (.mk (Option.some 18) (.call 40 [(.tmp 17)]) Option.none), (.mk
  (Option.some 19) (.mv (.tmp 2)) Option.none), (.mk (Option.some 20) (.call 41 [(.tmp 18), (.tmp 19)]) Option.none), (.mk (Option.some 21) (.call 35 [(.tmp 20)]) Option.none),
  (.mk (Option.some 22) (.call 34 [(.const (.string (ByteArray.mk #[99, 104, 97, 110, 103, 101, 115]))), (.tmp 21)]) Option.none), (.mk (Option.some 6) (.mv (.tmp 22))
  Option.none)]) .ret))) 23 [(.tmp 6)])
def a21 : AFn :=
  (.mk (.seq (.region [(.mk (Option.some 2) (.mv (.const (.int .i64 0))) Option.none)]) (.seq (.region [(.mk (Option.some 3) (.alloc [(.ptr Option.none)]) Option.none)]) (.seq
  (.block 0 (.seq (.region [(.mk (Option.some 5) (.mv (.tmp 0)) Option.none), (.mk (Option.some 6) (.eq (.iface Bool.true) Bool.false (.tmp 5) (.const .nilIface)) Option.none),
  (.mk (Option.some 4) (.mv (.tmp 6)) Option.none)]) (.cond (.tmp 4) (.seq (.region [(.mk (Option.some 2) (.mv (.const (.int .i64 0))) Option.none)]) .ret) (.seq (.region [(.mk
  (Option.some 8) (.mv (.tmp 0)) Option.none), (.mk (Option.some 9) (.mkIface 90 (.tmp 3)) Option.none), (.mk (Option.some 10) (.call 42 [(.tmp 8), (.tmp 9)]) Option.none), (.mk
  (Option.some 7) (.mv (.tmp 10)) Option.none)]) (.cond (.tmp 7) (.seq (.region [(.mk (Option.some 11) (.load 1 Bool.false (.tmp 3)) Option.none), (.mk (Option.some 12) (.nilCheck
  (.tmp 11)) Option.none), (.mk (Option.some 13) (.fieldAddr 0 (.tmp 12)) Option.none), (.mk (Option.some 14) (.load 1 Bool.false (.tmp 13)) Option.none), (.mk (Option.some 2) (.mv
  (.tmp 14)) Option.none)]) .ret) .skip))))) (.seq (.region [(.mk (Option.some 2) (.mv (.const (.int .i64 2))) Option.none)]) .ret)))) 15 [(.tmp 2)])
def a22 : AFn :=
  (.mk (.seq (.region [(.mk (Option.some 4) (.mv (.const (.int .i64 0))) Option.none)]) (.seq (.seq (.region [(.mk (Option.some 6) (.mv (.tmp 0)) Option.none), (.mk (Option.some 7)
  (.eq .ptr Bool.false (.tmp 6) (.const (.pointer Option.none))) Option.none)]) (.cond (.tmp 7) (.seq (.region [(.mk (Option.some 4) (.mv (.const (.int .i64 1))) Option.none)])
  .ret) .skip)) (.seq (.seq (.region [(.mk (Option.some 8) (.mv (.tmp 0)) Option.none), (.mk (Option.some 9) (.mv (.tmp 1)) Option.none), (.mk (Option.some 10) (.call 43 [(.tmp 8),
  (.tmp 9)]) Option.none), (.mk (Option.some 5) (.mv (.tmp 10)) Option.none)]) (.seq (.region [(.mk (Option.some 11) (.mv (.tmp 5)) Option.none), (.mk (Option.some 12) (.eq (.iface
  Bool.true) Bool.true (.tmp 11) (.const .nilIface)) Option.none)]) (.cond (.tmp 12) (.seq (.region [(.mk (Option.some 13) (.mv (.tmp 5)) Option.none), (.mk (Option.some 14) (.call
  21 [(.tmp 13)]) Option.none), (.mk (Option.some 4) (.mv (.tmp 14)) Option.none)]) .ret) .skip))) (.seq (.region [(.mk (Option.some 15) (.mv (.tmp 0)) Option.none), (.mk
  (Option.some 16) (.call 44 [(.tmp 15)]) Option.none), (.mk (Option.some 4) (.mv (.tmp 16)) Option.none)]) .ret)))) 17 [(.tmp 4)])
def a23 : AFn :=
  (.mk (.seq (.region [(.mk (Option.some 4) (.mv (.const (.slice Option.none 0 0))) Option.none)]) (.seq (.region [(.mk (Option.some 5) (.mv (.tmp 0)) Option.none), (.mk (Option.some
  6) (.conv .u64 (.tmp 5)) Option.none), (.mk (Option.some 7) (.call 46 [(.tmp 6)]) Option.none), (.mk (Option.some 8) (.mv (.tmp 1)) Option.none), (.mk (Option.some 9) (.call 47
  [(.tmp 8)]) Option.none), (.mk (Option.some 10) (.buildSlice 2 1 [(.slice Option.none 0 0 0 0), (.slice Option.none 0 0 0 0)] [(0, (1, (.tmp 7))), (1, (1, (.tmp 9)))])
  Option.none), (.mk (Option.some 11) (.call 45 [(.tmp 10)]) Option.none), (.mk (Option.some 4) (.mv (.tmp 11)) Option.none)]) .ret)) 12 [(.tmp 4)])
def a24 : AFn :=
  (.mk (.seq (.seq (.region [(.mk (Option.some 10) (.mv (.tmp 3)) Option.none), (.mk (Option.some 11) (.len (.tmp 10)) Option.none), (.mk (Option.some 12) (.mv (.const (.int .i64
  0))) Option.none)]) (.block 0 (.loop (.seq (.region [(.mk (Option.some 13) (.bin .lss (.tmp 12) (.tmp 11)) Option.none)]) (.seq (.cond (.tmp 13) .skip (.exit 0)) (.seq (.block 1
  (.seq (.region [(.mk (Option.some 14) (.atSlice 3 (.tmp 10) (.tmp 12)) Option.none), (.mk (Option.some 15) (.load 3 Bool.true (.tmp 14)) Option.none), (.mk (Option.some 9)
  (.alloc [(.str []), (.int .i64 0), (.bool Bool.false)]) Option.none), (.mk Option.none (.store 3 (.tmp 9) (.tmp 15)) Option.none)]) (.draws [((.mk (Option.some 16) (.mv (.tmp 0))
  Option.none), (0, 9)), ((.mk (Option.some 17) (.nilCheck (.tmp 16)) Option.none), (0, 9)), ((.mk (Option.some 18) (.fieldAddr 1 (.tmp 17)) Option.none), (0, 9)), ((.mk
  (Option.some 19) (.load 1 Bool.false (.tmp 18)) Option.none), (0, 9)), ((.mk (Option.some 20) (.fieldAddr 0 (.tmp 9)) Option.none), (0, 9)), ((.mk (Option.some 21) (.load 1
  Bool.false (.tmp 20)) Option.none), (0, 9)), ((.mk (Option.some 22) (.load 3 Bool.true (.tmp 9)) Option.none), (0, 9)), ((.mk (Option.some 23) (.mv (.tmp 1)) Option.none), (0,
  9)), ((.mk (Option.some 24) (.build [(.str []), (.int .i64 0), (.bool Bool.false), (.int .i64 0)] [(0, (3, (.tmp 22))), (3, (1, (.tmp 23)))]) Option.none), (0, 9)), ((.mk
  Option.none (.mapPut .str (.tmp 19) (.tmp 21) (.tmp 24)) Option.none), (0, 10))]))) (.region [(.mk (Option.some 25) (.bin .add (.tmp 12) (.const (.int .i64 1))) Option.none),
  (.mk (Option.some 12) (.mv (.tmp 25)) Option.none)]))))))) (.seq (.region [(.mk (Option.some 26) (.mv (.tmp 0)) Option.none), (.mk (Option.some 27) (.nilCheck (.tmp 26))
  Option.none), (.mk (Option.some 28) (.fieldAddr 2 (.tmp 27)) Option.none), (.mk (Option.some 29) (.load 1 Bool.false (.tmp 28)) Option.none), (.mk (Option.some 30) (.mv (.tmp 3))
  Option.none), (.mk (Option.some 31) (.len (.tmp 30)) Option.none), (.mk (Option.some 32) (.bin .add (.tmp 29) (.tmp 31)) Option.none), (.mk (Option.some 33) (.nilCheck (.tmp 26))
  Option.none), (.mk (Option.some 34) (.fieldAddr 2 (.tmp 33)) Option.none), (.mk Option.none (.store 1 (.tmp 34) (.tmp 32)) Option.none)]) (.region [(.mk (Option.some 35) (.mv
  (.tmp 0)) Option.none), (.mk (Option.some 36) (.mv (.tmp 0)) Option.none), (.mk (Option.some 37) (.nilCheck (.tmp 36)) Option.none), (.mk (Option.some 38) (.fieldAddr 3 (.tmp
  37)) Option.none), (.mk (Option.some 39) (.load 1 Bool.false (.tmp 38)) Option.none), (.mk (Option.some 40) (.mv (.tmp 2)) Option.none), (.mk (Option.some 41) (.minmax Bool.true
  [(.tmp 39), (.tmp 40)]) Option.none), (.mk (Option.some 42) (.nilCheck (.tmp 35)) Option.none), (.mk (Option.some 43) (.fieldAddr 3 (.tmp 42)) Option.none), (.mk Option.none
  (.store 1 (.tmp 43) (.tmp 41)) Option.none)]))) 44 [])
def a25 : AFn :=
  (.mk (.seq (.region [(.mk (Option.some 2) (.mv (.const (.slice Option.none 0 0))) Option.none)]) (.seq (.region [(.mk (Option.some 3) (.mv (.const (.slice Option.none 0 0)))
  Option.none)]) (.seq (.seq (.region [(.mk (Option.some 7) (.mv (.tmp 0)) Option.none), (.mk (Option.some 8) (.nilCheck (.tmp 7)) Option.none), (.mk (Option.some 9) (.fieldAddr 1
  (.tmp 8)) Option.none), (.mk (Option.some 10) (.load 1 Bool.false (.tmp 9)) Option.none), (.mk (Option.some 11) (.call 49 [(.tmp 10)]) Option.none), (.mk (Option.some 12) (.call
  48 [(.tmp 11)]) Option.none), (.mk (Option.some 13) (.len (.tmp 12)) Option.none), (.mk (Option.some 14) (.mv (.const (.int .i64 0))) Option.none)]) (.block 0 (.loop (.seq
  (.region [(.mk (Option.some 15) (.bin .lss (.tmp 14) (.tmp 13)) Option.none)]) (.seq (.cond (.tmp 15) .skip (.exit 0)) (.seq (.block 1 (.seq (.region [(.mk (Option.some 16)
  (.atSlice 1 (.tmp 12) (.tmp 14)) Option.none), (.mk (Option.some 17) (.load 1 Bool.false (.tmp 16)) Option.none), (.mk (Option.some 5) (.mv (.tmp 17)) Option.none)]) (.seq
  (.region [(.mk (Option.some 18) (.mv (.tmp 0)) Option.none), (.mk (Option.some 19) (.nilCheck (.tmp 18)) Option.none), (.mk (Option.some 20) (.fieldAddr 1 (.tmp 19))
  Option.none), (.mk (Option.some 21) (.load 1 Bool.false (.tmp 20)) Option.none), (.mk (Option.some 22) (.mv (.tmp 5)) Option.none), (.mk (Option.some 23) (.lookup .str (.agg
  [(.str []), (.int .i64 0), (.bool Bool.false), (.int .i64 0)]) Bool.false (.tmp 21) (.tmp 22)) Option.none), (.mk (Option.some 6) (.alloc [(.str []), (.int .i64 0), (.bool
  Bool.false), (.int .i64 0)]) Option.none), (.mk Option.none (.store 4 (.tmp 6) (.tmp 23)) Option.none)]) (.seq (.region [(.mk (Option.some 24) (.fieldAddr 0 (.tmp 6))
  Option.none), (.mk (Option.some 25) (.fieldAddr 2 (.tmp 24)) Option.none), (.mk (Option.some 26) (.load 1 Bool.false (.tmp 25)) Option.none)]) (.cond (.tmp 26) (.region [(.mk
  (Option.some 27) (.mv (.tmp 3)) Option.none), (.mk (Option.some 28) (.fieldAddr 0 (.tmp 6)) Option.none), (.mk (Option.some 29) (.load 3 Bool.true (.tmp 28)) Option.none), (.mk
  (Option.some 30) (.buildSlice 1 3 [(.str []), (.int .i64 0), (.bool Bool.false)] [(0, (3, (.tmp 29)))]) Option.none), (.mk (Option.some 31) (.append Bool.false 3 32 (.tmp 27)
  (.tmp 30)) Option.none), (.mk (Option.some 3) (.mv (.tmp 31)) Option.none)]) .skip))))) (.region [(.mk (Option.some 32) (.bin .add (.tmp 14) (.const (.int .i64 1))) Option.none),
  (.mk (Option.some 14) (.mv (.tmp 32)) Option.none)]))))))) (.seq (.region [(.mk (Option.some 33) (.mv (.tmp 3)) Option.none), (.mk (Option.some 2) (.mv (.tmp 33)) Option.none)])
  .ret)))) 34 [(.tmp 2)])
def a26 : AFn :=
  (.mk (.seq (.region [(.mk (Option.some 4) (.mv (.const (.int .i64 0))) Option.none)]) (.seq (.block 0 (.seq (.region [(.mk (Option.some 9) (.mv (.tmp 0)) Option.none), (.mk
  (Option.some 10) (.eq .ptr Bool.false (.tmp 9) (.const (.pointer Option.none))) Option.none), (.mk (Option.some 8) (.mv (.tmp 10)) Option.none)]) (.cond (.tmp 8) (.seq (.region
  [(.mk (Option.some 4) (.mv (.const (.int .i64 1))) Option.none)]) .ret) (.seq (.region [(.mk (Option.some 12) (.mv (.tmp 1)) Option.none), (.mk (Option.some 13) (.len (.tmp 12))
  Option.none), (.mk (Option.some 14) (.bin .gtr (.tmp 13) (.const (.int .i64 16383))) Option.none), (.mk (Option.some 11) (.mv (.tmp 14)) Option.none)]) (.cond (.tmp 11) (.seq
  (.region [(.mk (Option.some 4) (.mv (.const (.int .i64 7))) Option.none)]) .ret) .skip))))) (.seq (.seq (.region [(.mk (Option.some 15) (.mv (.tmp 0)) Option.none), (.mk
  (Option.some 16) (.call 44 [(.tmp 15)]) Option.none), (.mk (Option.some 5) (.mv (.tmp 16)) Option.none)]) (.seq (.region [(.mk (Option.some 17) (.mv (.tmp 5)) Option.none), (.mk
  (Option.some 18) (.bin .neq (.tmp 17) (.const (.int .i64 0))) Option.none)]) (.cond (.tmp 18) (.seq (.region [(.mk (Option.some 19) (.mv (.tmp 5)) Option.none), (.mk (Option.some
  4) (.mv (.tmp 19)) Option.none)]) .ret) .skip))) (.seq (.region [(.mk (Option.some 20) (.mv (.tmp 0)) Option.none), (.mk (Option.some 21) (.nilCheck (.tmp 20)) Option.none), (.mk
  (Option.some 22) (.fieldAddr 2 (.tmp 21)) Option.none), (.mk (Option.some 23) (.load 1 Bool.false (.tmp 22)) Option.none), (.mk (Option.some 24) (.bin .add (.tmp 23) (.const
  (.int .i64 1))) Option.none), (.mk (Option.some 6) (.mv (.tmp 24)) Option.none)]) (.seq (.draws [((.mk (Option.some 25) (.mv (.tmp 6)) Option.none), (0, 12)), ((.mk (Option.some
  26) (.mv (.tmp 0)) Option.none), (0, 11)), ((.mk (Option.some 27) (.nilCheck (.tmp 26)) Option.none), (0, 11)), ((.mk (Option.some 28) (.fieldAddr 0 (.tmp 27)) Option.none), (0,
  11)), ((.mk (Option.some 29) (.load 1 Bool.false (.tmp 28)) Option.none), (0, 11)), ((.mk (Option.some 30) (.mv (.tmp 6)) Option.none), (0, 11)), ((.mk (Option.some 31)
  (.buildSlice 1 1 [(.int .u8 0)] [(0, (1, (.const (.int .u8 1))))]) Option.none), (0, 8)), ((.mk (Option.some 32) (.mv (.tmp 1)) Option.none), (0, 8)), ((.mk (Option.some 33)
  (.buildSlice 2 1 [(.slice Option.none 0 0 0 0), (.slice Option.none 0 0 0 0)] [(0, (1, (.tmp 31))), (1, (1, (.tmp 32)))]) Option.none), (7, 9)), ((.mk (Option.some 34) (.call 52
  [(.tmp 33)]) Option.none), (9, 10)), ((.mk (Option.some 35) (.buildSlice 1 1 [(.slice Option.none 0 0 0 0)] [(0, (1, (.tmp 34)))]) Option.none), (10, 11)), ((.mk (Option.some 36)
  (.call 51 [(.tmp 29), (.tmp 30), (.tmp 35)]) Option.none), (11, 12)), ((.mk (Option.some 37) (.call 50 [(.tmp 25), (.tmp 36)]) Option.none), (12, 14)), ((.mk (Option.some 7) (.mv
  (.tmp 37)) Option.none), (13, 14))]) (.seq (.seq (.region [(.mk (Option.some 38) (.mv (.tmp 7)) Option.none), (.mk (Option.some 39) (.eq (.iface Bool.true) Bool.true (.tmp 38)
  (.const .nilIface)) Option.none)]) (.cond (.tmp 39) (.seq (.region [(.mk (Option.some 40) (.mv (.tmp 7)) Option.none), (.mk (Option.some 41) (.call 21 [(.tmp 40)]) Option.none),
  (.mk (Option.some 4) (.mv (.tmp 41)) Option.none)]) .ret) .skip)) (.seq (.seq (.region [(.mk (Option.some 42) (.mv (.tmp 6)) Option.none), (.mk (Option.some 43) (.mv (.tmp 0))
  Option.none), (.mk (Option.some 44) (.nilCheck (.tmp 43)) Option.none), (.mk (Option.some 45) (.fieldAddr 0 (.tmp 44)) Option.none), (.mk (Option.some 46) (.load 1 Bool.false
  (.tmp 45)) Option.none), (.mk (Option.some 47) (.mv (.tmp 6)) Option.none), (.mk (Option.some 48) (.call 53 [(.tmp 46), (.tmp 47)]) Option.none), (.mk (Option.some 49) (.call 50
  [(.tmp 42), (.tmp 48)]) Option.none), (.mk (Option.some 7) (.mv (.tmp 49)) Option.none)]) (.seq (.region [(.mk (Option.some 50) (.mv (.tmp 7)) Option.none), (.mk (Option.some 51)
  (.eq (.iface Bool.true) Bool.true (.tmp 50) (.const .nilIface)) Option.none)]) (.cond (.tmp 51) (.seq (.region [(.mk (Option.some 52) (.mv (.tmp 0)) Option.none), (.mk
  (Option.some 53) (.nilCheck (.tmp 52)) Option.none), (.mk (Option.some 54) (.fieldAddr 0 (.tmp 53)) Option.none), (.mk (Option.some 55) (.load 1 Bool.false (.tmp 54))
  Option.none), (.mk (Option.some 56) (.mv (.tmp 6)) Option.none), (.mk (Option.some 57) (.call 54 [(.tmp 55), (.tmp 56)]) Option.none)]) (.seq (.region [(.mk (Option.some 58) (.mv
  (.tmp 7)) Option.none), (.mk (Option.some 59) (.call 21 [(.tmp 58)]) Option.none), (.mk (Option.some 4) (.mv (.tmp 59)) Option.none)]) .ret)) .skip))) (.seq (.region [(.mk
  (Option.some 60) (.mv (.tmp 0)) Option.none), (.mk (Option.some 61) (.mv (.tmp 0)) Option.none), (.mk (Option.some 62) (.mv (.tmp 0)) Option.none), (.mk (Option.some 63) (.mv
  (.tmp 6)) Option.none), (.mk (Option.some 64) (.mv (.tmp 1)) Option.none), (.mk (Option.some 65) (.call 30 [(.tmp 64)]) Option.none), (.mk (Option.some 66) (.nilCheck (.tmp 60))
  Option.none), (.mk (Option.some 67) (.fieldAddr 2 (.tmp 66)) Option.none), (.mk Option.none (.store 1 (.tmp 67) (.tmp 63)) Option.none), (.mk (Option.some 68) (.nilCheck (.tmp
  61)) Option.none), (.mk (Option.some 69) (.fieldAddr 3 (.tmp 68)) Option.none), (.mk Option.none (.store 1 (.tmp 69) (.tmp 65)) Option.none), (.mk (Option.some 70) (.nilCheck
  (.tmp 62)) Option.none), (.mk (Option.some 71) (.fieldAddr 4 (.tmp 70)) Option.none), (.mk Option.none (.store 1 (.tmp 71) (.const (.slice Option.none 0 0))) Option.none)]) (.seq
  (.region [(.mk (Option.some 72) (.mv (.tmp 0)) Option.none), (.mk (Option.some 73) (.call 55 [(.tmp 72)]) Option.none), (.mk (Option.some 74) (.call 21 [(.tmp 73)]) Option.none),
  (.mk (Option.some 4) (.mv (.tmp 74)) Option.none)]) .ret))))))))) 75 [(.tmp 4)])
def a27 : AFn :=
  (.mk (.seq (.region [(.mk (Option.some 2) (.mv (.const (.pointer Option.none))) Option.none), (.mk (Option.some 3) (.mv (.const (.int .i64 0))) Option.none)]) (.seq (.seq (.region
  [(.mk (Option.some 4) (.mv (.tmp 0)) Option.none), (.mk (Option.some 5) (.bin .lss (.tmp 4) (.const (.int .i64 0))) Option.none), (.mk (Option.some 6) (.mv (.tmp 5))
  Option.none), (.mk (Option.some 7) (.mv (.tmp 0)) (Option.some (6, Bool.false))), (.mk (Option.some 8) (.bin .gtr (.tmp 7) (.const (.int .i64 1048576))) (Option.some (6,
  Bool.false))), (.mk (Option.some 9) (.pick (.tmp 6) (.const (.bool Bool.true)) (.tmp 8)) Option.none)]) (.cond (.tmp 9) (.seq (.region [(.mk (Option.some 2) (.mv (.const
  (.pointer Option.none))) Option.none), (.mk (Option.some 3) (.mv (.const (.int .i64 2))) Option.none)]) .ret) .skip)) (.seq (.region [(.mk (Option.some 10) (.mv (.tmp 0))
  Option.none), (.mk (Option.some 11) .mkMap Option.none), (.mk (Option.some 12) (.build [(.int .i64 0), (.map Option.none), (.int .i64 0), (.bool Bool.false)] [(0, (1, (.tmp
  10))), (1, (1, (.tmp 11))), (2, (1, (.const (.int .i64 (-1))))), (3, (1, (.const (.bool Bool.false))))]) Option.none), (.mk (Option.some 13) (.box (.tmp 12)) Option.none), (.mk
  (Option.some 2) (.mv (.tmp 13)) Option.none), (.mk (Option.some 3) (.mv (.const (.int .i64 0))) Option.none)]) .ret))) 14 [(.tmp 2), (.tmp 3)])
def a28 : AFn :=
  (.mk (.seq (.region [(.mk (Option.some 2) (.mv (.const .nilIface)) Option.none)]) (.seq (.region [(.mk (Option.some 8) (.mv (.tmp 0)) Option.none), (.mk (Option.some 9) (.nilCheck
  (.tmp 8)) Option.none), (.mk (Option.some 10) (.fieldAddr 0 (.tmp 9)) Option.none), (.mk (Option.some 11) (.load 1 Bool.false (.tmp 10)) Option.none), (.mk (Option.some 12)
  (.call 56 [(.tmp 11)]) Option.none), (.mk (Option.some 3) (.mv (.tmp 12)) Option.none)]) (.seq (.seq (.region [(.mk (Option.some 13) (.mv (.tmp 3)) Option.none), (.mk
  (Option.some 14) (.len (.tmp 13)) Option.none), (.mk (Option.some 15) (.bin .sub (.tmp 14) (.const (.int .i64 1))) Option.none), (.mk (Option.some 4) (.mv (.tmp 15))
  Option.none)]) (.block 0 (.loop (.seq (.seq (.region [(.mk (Option.some 16) (.mv (.tmp 4)) Option.none), (.mk (Option.some 17) (.bin .geq (.tmp 16) (.const (.int .i64 0)))
  Option.none)]) (.cond (.tmp 17) .skip (.exit 0))) (.seq (.block 1 (.seq (.region [(.mk (Option.some 21) (.mv (.tmp 0)) Option.none), (.mk (Option.some 22) (.mv (.tmp 3))
  Option.none), (.mk (Option.some 23) (.mv (.tmp 4)) Option.none), (.mk (Option.some 24) (.atSlice 1 (.tmp 22) (.tmp 23)) Option.none), (.mk (Option.some 25) (.load 1 Bool.false
  (.tmp 24)) Option.none), (.mk (Option.some 26) (.call 57 [(.tmp 21), (.tmp 25)]) Option.none), (.mk (Option.some 20) (.mv (.tmp 26)) Option.none), (.mk (Option.some 27) (.extract
  (.tmp 20) 0) Option.none), (.mk (Option.some 28) (.extract (.tmp 20) 1) Option.none), (.mk (Option.some 5) (.mv (.tmp 27)) Option.none), (.mk (Option.some 6) (.mv (.tmp 28))
  Option.none)]) (.seq (.seq (.region [(.mk (Option.some 29) (.mv (.tmp 5)) Option.none), (.mk (Option.some 30) (.len (.tmp 29)) Option.none), (.mk (Option.some 31) (.bin .gtr
  (.tmp 30) (.const (.int .i64 0))) Option.none)]) (.cond (.tmp 31) (.seq (.region [(.mk (Option.some 32) (.mv (.tmp 0)) Option.none), (.mk (Option.some 33) (.mv (.tmp 3))
  Option.none), (.mk (Option.some 34) (.mv (.tmp 4)) Option.none), (.mk (Option.some 35) (.atSlice 1 (.tmp 33) (.tmp 34)) Option.none), (.mk (Option.some 36) (.load 1 Bool.false
  (.tmp 35)) Option.none), (.mk (Option.some 37) (.nilCheck (.tmp 32)) Option.none), (.mk (Option.some 38) (.fieldAddr 2 (.tmp 37)) Option.none), (.mk Option.none (.store 1 (.tmp
  38) (.tmp 36)) Option.none)]) (.seq (.seq (.draws [((.mk (Option.some 39) (.mv (.tmp 6)) Option.none), (0, 11)), ((.mk (Option.some 40) (.mv (.tmp 0)) Option.none), (0, 9)),
  ((.mk (Option.some 41) (.nilCheck (.tmp 40)) Option.none), (0, 9)), ((.mk (Option.some 42) (.fieldAddr 0 (.tmp 41)) Option.none), (0, 9)), ((.mk (Option.some 43) (.load 1
  Bool.false (.tmp 42)) Option.none), (0, 9)), ((.mk (Option.some 44) (.mv (.tmp 3)) Option.none), (0, 9)), ((.mk (Option.some 45) (.mv (.tmp 4)) Option.none), (0, 9)), ((.mk
  (Option.some 46) (.atSlice 1 (.tmp 44) (.tmp 45)) Option.none), (0, 9)), ((.mk (Option.some 47) (.load 1 Bool.false (.tmp 46)) Option.none), (0, 9)), ((.mk (Option.some 48)
  (.call 58 [(.tmp 43), (.tmp 47)]) Option.none), (0, 11)), ((.mk (Option.some 49) (.bin .lss (.tmp 39) (.tmp 48)) Option.none), (10, 11))]) (.cond (.tmp 49) (.seq (.draws [((.mk
  (Option.some 50) (.mv (.tmp 3)) Option.none), (0, 14)), ((.mk (Option.some 51) (.mv (.tmp 4)) Option.none), (0, 14)), ((.mk (Option.some 52) (.atSlice 1 (.tmp 50) (.tmp 51))
  Option.none), (0, 14)), ((.mk (Option.some 53) (.load 1 Bool.false (.tmp 52)) Option.none), (0, 14)), ((.mk (Option.some 54) (.mv (.tmp 0)) Option.none), (0, 13)), ((.mk
  (Option.some 55) (.nilCheck (.tmp 54)) Option.none), (0, 13)), ((.mk (Option.some 56) (.fieldAddr 0 (.tmp 55)) Option.none), (0, 13)), ((.mk (Option.some 57) (.load 1 Bool.false
  (.tmp 56)) Option.none), (0, 13)), ((.mk (Option.some 58) (.mv (.tmp 3)) Option.none), (0, 13)), ((.mk (Option.some 59) (.mv (.tmp 4)) Option.none), (0, 13)), ((.mk (Option.some
  60) (.atSlice 1 (.tmp 58) (.tmp 59)) Option.none), (0, 13)), ((.mk (Option.some 61) (.load 1 Bool.false (.tmp 60)) Option.none), (0, 13)), ((.mk (Option.some 62) (.mv (.tmp 6))
  Option.none), (0, 13)), ((.mk (Option.some 63) (.call 59 [(.tmp 57), (.tmp 61), (.tmp 62)]) Option.none), (0, 14)), ((.mk (Option.some 64) (.call 50 [(.tmp 53), (.tmp 63)])
  Option.none), (14, 16)), ((.mk (Option.some 2) (.mv (.tmp 64)) Option.none), (15, 16))]) .ret) .skip)) (.seq (.region [(.mk (Option.some 2) (.mv (.const .nilIface))
  Option.none)]) .ret))) .skip)) (.seq (.draws [((.mk (Option.some 65) (.mv (.tmp 3)) Option.none), (0, 13)), ((.mk (Option.some 66) (.mv (.tmp 4)) Option.none), (0, 13)), ((.mk
  (Option.some 67) (.atSlice 1 (.tmp 65) (.tmp 66)) Option.none), (0, 13)), ((.mk (Option.some 68) (.load 1 Bool.false (.tmp 67)) Option.none), (0, 13)), ((.mk (Option.some 69)
  (.mv (.tmp 0)) Option.none), (0, 12)), ((.mk (Option.some 70) (.nilCheck (.tmp 69)) Option.none), (0, 12)), ((.mk (Option.some 71) (.fieldAddr 0 (.tmp 70)) Option.none), (0,
  12)), ((.mk (Option.some 72) (.load 1 Bool.false (.tmp 71)) Option.none), (0, 12)), ((.mk (Option.some 73) (.mv (.tmp 3)) Option.none), (0, 12)), ((.mk (Option.some 74) (.mv
  (.tmp 4)) Option.none), (0, 12)), ((.mk (Option.some 75) (.atSlice 1 (.tmp 73) (.tmp 74)) Option.none), (0, 12)), ((.mk (Option.some 76) (.load 1 Bool.false (.tmp 75))
  Option.none), (0, 12)), ((.mk (Option.some 77) (.call 54 [(.tmp 72), (.tmp 76)]) Option.none), (0, 13)), ((.mk (Option.some 78) (.call 50 [(.tmp 68), (.tmp 77)]) Option.none),
  (13, 15)), ((.mk (Option.some 7) (.mv (.tmp 78)) Option.none), (14, 15))]) (.seq (.region [(.mk (Option.some 79) (.mv (.tmp 7)) Option.none), (.mk (Option.some 80) (.eq (.iface
  Bool.true) Bool.true (.tmp 79) (.const .nilIface)) Option.none)]) (.cond (.tmp 80) (.seq (.region [(.mk (Option.some 81) (.mv (.tmp 7)) Option.none), (.mk (Option.some 2) (.mv
  (.tmp 81)) Option.none)]) .ret) .skip)))))) (.region [(.mk (Option.some 18) (.mv (.tmp 4)) Option.none), (.mk (Option.some 19) (.bin .sub (.tmp 18) (.const (.int .i64 1)))
  Option.none), (.mk (Option.some 4) (.mv (.tmp 19)) Option.none)])))))) (.seq (.region [(.mk (Option.some 2) (.mv (.const .nilIface)) Option.none)]) .ret)))) 82 [(.tmp 2)])
def a29 : AFn :=
  (.mk (.seq (.region [(.mk (Option.some 2) (.mv (.const .nilIface)) Option.none)]) (.seq (.region [(.mk (Option.some 16) (.mv (.tmp 0)) Option.none), (.mk (Option.some 17)
  (.nilCheck (.tmp 16)) Option.none), (.mk (Option.some 18) (.fieldAddr 0 (.tmp 17)) Option.none), (.mk (Option.some 19) (.load 1 Bool.false (.tmp 18)) Option.none), (.mk
  (Option.some 20) (.call 56 [(.tmp 19)]) Option.none), (.mk (Option.some 3) (.mv (.tmp 20)) Option.none)]) (.seq (.region [(.mk (Option.some 4) (.mv (.const (.int .i64 0)))
  Option.none)]) (.seq (.seq (.region [(.mk (Option.some 21) (.mv (.tmp 3)) Option.none), (.mk (Option.some 22) (.len (.tmp 21)) Option.none), (.mk (Option.some 23) (.mv (.const
  (.int .i64 0))) Option.none)]) (.block 0 (.loop (.seq (.region [(.mk (Option.some 24) (.bin .lss (.tmp 23) (.tmp 22)) Option.none)]) (.seq (.cond (.tmp 24) .skip (.exit 0)) (.seq
  (.block 1 (.seq (.region [(.mk (Option.some 25) (.mv (.tmp 23)) Option.none), (.mk (Option.some 26) (.atSlice 1 (.tmp 21) (.tmp 23)) Option.none), (.mk (Option.some 27) (.load 1
  Bool.false (.tmp 26)) Option.none), (.mk (Option.some 5) (.mv (.tmp 25)) Option.none), (.mk (Option.some 6) (.mv (.tmp 27)) Option.none)]) (.seq (.region [(.mk (Option.some 29)
  (.mv (.tmp 0)) Option.none), (.mk (Option.some 30) (.mv (.tmp 6)) Option.none), (.mk (Option.some 31) (.call 57 [(.tmp 29), (.tmp 30)]) Option.none), (.mk (Option.some 28) (.mv
  (.tmp 31)) Option.none), (.mk (Option.some 32) (.extract (.tmp 28) 0) Option.none), (.mk (Option.some 33) (.extract (.tmp 28) 1) Option.none), (.mk (Option.some 7) (.mv (.tmp
  32)) Option.none), (.mk (Option.some 8) (.mv (.tmp 33)) Option.none)]) (.seq (.region [(.mk (Option.some 34) (.mv (.tmp 7)) Option.none), (.mk (Option.some 35) (.call 60 [(.tmp
  34)]) Option.none)]) (.cond (.tmp 35) (.region [(.mk (Option.some 36) (.mv (.tmp 5)) Option.none), (.mk (Option.some 4) (.mv (.tmp 36)) Option.none)]) .skip))))) (.region [(.mk
  (Option.some 37) (.bin .add (.tmp 23) (.const (.int .i64 1))) Option.none), (.mk (Option.some 23) (.mv (.tmp 37)) Option.none)]))))))) (.seq (.seq (.region [(.mk (Option.some 38)
  (.mv (.tmp 3)) Option.none), (.mk (Option.some 39) (.len (.tmp 38)) Option.none), (.mk (Option.some 40) (.mv (.const (.int .i64 0))) Option.none)]) (.block 2 (.loop (.seq
  (.region [(.mk (Option.some 41) (.bin .lss (.tmp 40) (.tmp 39)) Option.none)]) (.seq (.cond (.tmp 41) .skip (.exit 2)) (.seq (.block 3 (.seq (.region [(.mk (Option.some 42) (.mv
  (.tmp 40)) Option.none), (.mk (Option.some 43) (.atSlice 1 (.tmp 38) (.tmp 40)) Option.none), (.mk (Option.some 44) (.load 1 Bool.false (.tmp 43)) Option.none), (.mk (Option.some
  9) (.mv (.tmp 42)) Option.none), (.mk (Option.some 10) (.mv (.tmp 44)) Option.none)]) (.seq (.seq (.region [(.mk (Option.some 45) (.mv (.tmp 9)) Option.none), (.mk (Option.some
  46) (.mv (.tmp 4)) Option.none), (.mk (Option.some 47) (.bin .lss (.tmp 45) (.tmp 46)) Option.none)]) (.cond (.tmp 47) (.seq (.seq (.region [(.mk (Option.some 48) (.mv (.tmp 10))
  Option.none), (.mk (Option.some 49) (.mv (.tmp 0)) Option.none), (.mk (Option.some 50) (.nilCheck (.tmp 49)) Option.none), (.mk (Option.some 51) (.fieldAddr 0 (.tmp 50))
  Option.none), (.mk (Option.some 52) (.load 1 Bool.false (.tmp 51)) Option.none), (.mk (Option.some 53) (.mv (.tmp 10)) Option.none), (.mk (Option.some 54) (.call 54 [(.tmp 52),
  (.tmp 53)]) Option.none), (.mk (Option.some 55) (.call 50 [(.tmp 48), (.tmp 54)]) Option.none), (.mk (Option.some 11) (.mv (.tmp 55)) Option.none)]) (.seq (.region [(.mk
  (Option.some 56) (.mv (.tmp 11)) Option.none), (.mk (Option.some 57) (.eq (.iface Bool.true) Bool.true (.tmp 56) (.const .nilIface)) Option.none)]) (.cond (.tmp 57) (.seq
  (.region [(.mk (Option.some 58) (.mv (.tmp 11)) Option.none), (.mk (Option.some 2) (.mv (.tmp 58)) Option.none)]) .ret) .skip))) (.exit 3)) .skip)) (.seq (.region [(.mk
  (Option.some 60) (.mv (.tmp 0)) Option.none), (.mk (Option.some 61) (.mv (.tmp 10)) Option.none), (.mk (Option.some 62) (.call 57 [(.tmp 60), (.tmp 61)]) Option.none), (.mk
  (Option.some 59) (.mv (.tmp 62)) Option.none), (.mk (Option.some 63) (.extract (.tmp 59) 0) Option.none), (.mk (Option.some 64) (.extract (.tmp 59) 1) Option.none), (.mk
  (Option.some 12) (.mv (.tmp 63)) Option.none), (.mk (Option.some 13) (.mv (.tmp 64)) Option.none)]) (.seq (.seq (.region [(.mk (Option.some 65) (.mv (.tmp 9)) Option.none), (.mk
  (Option.some 66) (.mv (.tmp 4)) Option.none), (.mk (Option.some 67) (.bin .eql (.tmp 65) (.tmp 66)) Option.none), (.mk (Option.some 68) (.mv (.tmp 67)) Option.none), (.mk
  (Option.some 69) (.mv (.tmp 12)) (Option.some (68, Bool.true))), (.mk (Option.some 70) (.call 60 [(.tmp 69)]) (Option.some (68, Bool.true))), (.mk (Option.some 71) (.pick (.tmp
  68) (.tmp 70) (.const (.bool Bool.false))) Option.none)]) (.cond (.tmp 71) (.region [(.mk (Option.some 72) (.mv (.tmp 0)) Option.none), (.mk (Option.some 73) (.mv (.tmp 12))
  Option.none), (.mk (Option.some 74) (.atSlice 1 (.tmp 73) (.const (.int .i64 0))) Option.none), (.mk (Option.some 75) (.load 1 Bool.false (.tmp 74)) Option.none), (.mk
  (Option.some 76) (.cutSlice 1 (.tmp 75) (Option.some (.const (.int .i64 1))) Option.none Option.none) Option.none), (.mk (Option.some 77) (.nilCheck (.tmp 72)) Option.none), (.mk
  (Option.some 78) (.fieldAddr 3 (.tmp 77)) Option.none), (.mk Option.none (.store 1 (.tmp 78) (.tmp 76)) Option.none)]) .skip)) (.seq (.region [(.mk (Option.some 79) (.mv (.tmp
  12)) Option.none), (.mk (Option.some 80) (.len (.tmp 79)) Option.none), (.mk (Option.some 81) (.mv (.const (.int .i64 0))) Option.none)]) (.block 4 (.loop (.seq (.region [(.mk
  (Option.some 82) (.bin .lss (.tmp 81) (.tmp 80)) Option.none)]) (.seq (.cond (.tmp 82) .skip (.exit 4)) (.seq (.block 5 (.seq (.region [(.mk (Option.some 83) (.atSlice 1 (.tmp
  79) (.tmp 81)) Option.none), (.mk (Option.some 84) (.load 1 Bool.false (.tmp 83)) Option.none), (.mk (Option.some 15) (.mv (.tmp 84)) Option.none)]) (.seq (.region [(.mk
  (Option.some 85) (.mv (.tmp 15)) Option.none), (.mk (Option.some 86) (.len (.tmp 85)) Option.none), (.mk (Option.some 87) (.bin .gtr (.tmp 86) (.const (.int .i64 0)))
  Option.none), (.mk (Option.some 88) (.mv (.tmp 87)) Option.none), (.mk (Option.some 89) (.mv (.tmp 15)) (Option.some (88, Bool.true))), (.mk (Option.some 90) (.atSlice 1 (.tmp
  89) (.const (.int .i64 0))) (Option.some (88, Bool.true))), (.mk (Option.some 91) (.load 1 Bool.false (.tmp 90)) (Option.some (88, Bool.true))), (.mk (Option.some 92) (.bin .eql
  (.tmp 91) (.const (.int .u8 0))) (Option.some (88, Bool.true))), (.mk (Option.some 93) (.pick (.tmp 88) (.tmp 92) (.const (.bool Bool.false))) Option.none)]) (.cond (.tmp 93)
  (.draws [((.mk (Option.some 94) (.mv (.tmp 0)) Option.none), (0, 11)), ((.mk (Option.some 95) (.mv (.tmp 0)) Option.none), (0, 8)), ((.mk (Option.some 96) (.nilCheck (.tmp 95))
  Option.none), (0, 8)), ((.mk (Option.some 97) (.fieldAddr 4 (.tmp 96)) Option.none), (0, 8)), ((.mk (Option.some 98) (.load 1 Bool.false (.tmp 97)) Option.none), (0, 8)), ((.mk
  (Option.some 99) (.mv (.tmp 15)) Option.none), (0, 7)), ((.mk (Option.some 100) (.cutSlice 1 (.tmp 99) (Option.some (.const (.int .i64 1))) Option.none Option.none) Option.none),
  (0, 7)), ((.mk (Option.some 101) (.buildSlice 1 1 [(.slice Option.none 0 0 0 0)] [(0, (1, (.tmp 100)))]) Option.none), (0, 8)), ((.mk (Option.some 102) (.append Bool.false 1 24
  (.tmp 98) (.tmp 101)) Option.none), (8, 11)), ((.mk (Option.some 103) (.nilCheck (.tmp 94)) Option.none), (9, 11)), ((.mk (Option.some 104) (.fieldAddr 4 (.tmp 103))
  Option.none), (9, 11)), ((.mk Option.none (.store 1 (.tmp 104) (.tmp 102)) Option.none), (9, 12))]) .skip)))) (.region [(.mk (Option.some 105) (.bin .add (.tmp 81) (.const (.int
  .i64 1))) Option.none), (.mk (Option.some 81) (.mv (.tmp 105)) Option.none)])))))))))))) (.region [(.mk (Option.some 106) (.bin .add (.tmp 40) (.const (.int .i64 1)))
  Option.none), (.mk (Option.some 40) (.mv (.tmp 106)) Option.none)]))))))) (.seq (.region [(.mk (Option.some 2) (.mv (.const .nilIface)) Option.none)]) .ret)))))) 107 [(.tmp 2)])
def a30 : AFn :=
  (.mk (.seq (.region [(.mk (Option.some 2) (.mv (.const (.slice Option.none 0 0))) Option.none)]) (.seq (.seq (.region [(.mk (Option.some 3) (.mv (.tmp 0)) Option.none), (.mk
  (Option.some 4) (.eq .nilSlice Bool.false (.tmp 3) (.const (.slice Option.none 0 0))) Option.none)]) (.cond (.tmp 4) (.seq (.region [(.mk (Option.some 2) (.mv (.const (.slice
  Option.none 0 0))) Option.none)]) .ret) .skip)) (.seq (.region [(.mk (Option.some 5) (.buildSlice 0 1 [] []) Option.none), (.mk (Option.some 6) (.mv (.tmp 0)) Option.none), (.mk
  (Option.some 7) (.append Bool.false 1 1 (.tmp 5) (.tmp 6)) Option.none), (.mk (Option.some 2) (.mv (.tmp 7)) Option.none)]) .ret))) 8 [(.tmp 2)])
def a34 : AFn :=
  (.mk (.seq (.region [(.mk (Option.some 4) (.mv (.const .nilIface)) Option.none)]) (.seq (.seq (.region [(.mk (Option.some 5) (.mv (.tmp 1)) Option.none), (.mk (Option.some 6) (.eq
  (.iface Bool.true) Bool.false (.tmp 5) (.const .nilIface)) Option.none)]) (.cond (.tmp 6) (.seq (.region [(.mk (Option.some 4) (.mv (.const .nilIface)) Option.none)]) .ret)
  .skip)) (.seq (.region [(.mk (Option.some 7) (.mv (.tmp 1)) Option.none), (.mk (Option.some 8) (.build [.nilIface] [(0, (1, (.tmp 7)))]) Option.none), (.mk (Option.some 9) (.mv
  (.tmp 0)) Option.none), (.mk (Option.some 10) (.build [.nilIface, (.str [])] [(0, (1, (.tmp 8))), (1, (1, (.tmp 9)))]) Option.none), (.mk (Option.some 11) (.box (.tmp 10))
  Option.none), (.mk (Option.some 12) (.mkIface 120 (.tmp 11)) Option.none), (.mk (Option.some 4) (.mv (.tmp 12)) Option.none)]) .ret))) 13 [(.tmp 4)])
def a35 : AFn :=
  (.mk (.seq (.region [(.mk (Option.some 2) (.mv (.const .nilIface)) Option.none)]) (.seq (.seq (.region [(.mk (Option.some 3) (.mv (.tmp 0)) Option.none), (.mk (Option.some 4) (.bin
  .eql (.tmp 3) (.const (.int .i64 0))) Option.none)]) (.cond (.tmp 4) (.seq (.region [(.mk (Option.some 2) (.mv (.const .nilIface)) Option.none)]) .ret) .skip)) (.seq (.region
  [(.mk (Option.some 5) (.mv (.tmp 0)) Option.none), (.mk (Option.some 6) (.build [(.int .i64 0)] [(0, (1, (.tmp 5)))]) Option.none), (.mk (Option.some 7) (.box (.tmp 6))
  Option.none), (.mk (Option.some 8) (.mkIface 88 (.tmp 7)) Option.none), (.mk (Option.some 2) (.mv (.tmp 8)) Option.none)]) .ret))) 9 [(.tmp 2)])
def a40 : AFn :=
  (.mk (.seq (.region [(.mk (Option.some 2) (.mv (.const (.pointer Option.none))) Option.none)]) (.seq (.region [(.mk (Option.some 6) (.build [(.slice Option.none 0 0 0 0)] [])
  Option.none), (.mk (Option.some 7) (.box (.tmp 6)) Option.none), (.mk (Option.some 3) (.mv (.tmp 7)) Option.none)]) (.seq (.seq (.region [(.mk (Option.some 8) (.mv (.tmp 0))
  Option.none), (.mk (Option.some 9) (.len (.tmp 8)) Option.none), (.mk (Option.some 10) (.mv (.const (.int .i64 0))) Option.none)]) (.block 0 (.loop (.seq (.region [(.mk
  (Option.some 11) (.bin .lss (.tmp 10) (.tmp 9)) Option.none)]) (.seq (.cond (.tmp 11) .skip (.exit 0)) (.seq (.block 1 (.seq (.region [(.mk (Option.some 12) (.atSlice 2 (.tmp 8)
  (.tmp 10)) Option.none), (.mk (Option.some 13) (.load 2 Bool.true (.tmp 12)) Option.none), (.mk (Option.some 5) (.alloc [(.str []), (.int .i64 0)]) Option.none), (.mk Option.none
  (.store 2 (.tmp 5) (.tmp 13)) Option.none)]) (.seq (.region [(.mk (Option.some 14) (.fieldAddr 0 (.tmp 5)) Option.none), (.mk (Option.some 15) (.load 1 Bool.false (.tmp 14))
  Option.none), (.mk (Option.some 16) (.lenStr (.tmp 15)) Option.none), (.mk (Option.some 17) (.bin .leq (.tmp 16) (.const (.int .i64 16))) Option.none)]) (.cond (.tmp 17) (.region
  [(.mk (Option.some 18) (.mv (.tmp 3)) Option.none), (.mk (Option.some 19) (.fieldAddr 0 (.tmp 5)) Option.none), (.mk (Option.some 20) (.load 1 Bool.false (.tmp 19)) Option.none),
  (.mk (Option.some 21) (.fieldAddr 1 (.tmp 5)) Option.none), (.mk (Option.some 22) (.load 1 Bool.false (.tmp 21)) Option.none), (.mk (Option.some 23) (.call 68 [(.tmp 18), (.tmp
  20), (.tmp 22)]) Option.none)]) .skip)))) (.region [(.mk (Option.some 24) (.bin .add (.tmp 10) (.const (.int .i64 1))) Option.none), (.mk (Option.some 10) (.mv (.tmp 24))
  Option.none)]))))))) (.seq (.region [(.mk (Option.some 25) (.mv (.tmp 3)) Option.none), (.mk (Option.some 2) (.mv (.tmp 25)) Option.none)]) .ret)))) 26 [(.tmp 2)])
def a41 : AFn :=
  (.mk (.seq (.region [(.mk (Option.some 4) (.mv (.const (.int .i64 0))) Option.none)]) (.seq (.seq (.region [(.mk (Option.some 9) (.mv (.tmp 0)) Option.none), (.mk (Option.some 10)
  (.eq .ptr Bool.false (.tmp 9) (.const (.pointer Option.none))) Option.none)]) (.cond (.tmp 10) (.seq (.region [(.mk (Option.some 4) (.mv (.const (.int .i64 1))) Option.none)])
  .ret) .skip)) (.seq (.seq (.region [(.mk (Option.some 11) (.mv (.tmp 1)) Option.none), (.mk (Option.some 12) (.call 69 [(.tmp 11), (.func 70)]) Option.none)]) (.cond (.tmp 12)
  (.seq (.region [(.mk (Option.some 4) (.mv (.const (.int .i64 2))) Option.none)]) .ret) .skip)) (.seq (.region [(.mk (Option.some 13) (.mv (.tmp 0)) Option.none), (.mk
  (Option.some 14) (.call 72 [(.tmp 13)]) Option.none), (.mk (Option.some 5) (.mv (.tmp 14)) Option.none)]) (.seq (.seq (.region [(.mk (Option.some 15) (.mv (.tmp 1)) Option.none),
  (.mk (Option.some 16) (.len (.tmp 15)) Option.none), (.mk (Option.some 17) (.mv (.const (.int .i64 0))) Option.none)]) (.block 0 (.loop (.seq (.region [(.mk (Option.some 18)
  (.bin .lss (.tmp 17) (.tmp 16)) Option.none)]) (.seq (.cond (.tmp 18) .skip (.exit 0)) (.seq (.block 1 (.seq (.region [(.mk (Option.some 19) (.atSlice 3 (.tmp 15) (.tmp 17))
  Option.none), (.mk (Option.some 20) (.load 3 Bool.true (.tmp 19)) Option.none), (.mk (Option.some 7) (.alloc [(.str []), (.int .i64 0), (.bool Bool.false)]) Option.none), (.mk
  Option.none (.store 3 (.tmp 7) (.tmp 20)) Option.none)]) (.seq (.seq (.region [(.mk (Option.some 21) (.fieldAddr 2 (.tmp 7)) Option.none), (.mk (Option.some 22) (.load 1
  Bool.false (.tmp 21)) Option.none), (.mk (Option.some 23) (.un .not (.tmp 22)) Option.none)]) (.cond (.tmp 23) (.seq (.region [(.mk (Option.some 24) (.mv (.tmp 5)) Option.none),
  (.mk (Option.some 25) (.fieldAddr 0 (.tmp 7)) Option.none), (.mk (Option.some 26) (.load 1 Bool.false (.tmp 25)) Option.none), (.mk (Option.some 27) (.call 73 [(.tmp 24), (.tmp
  26)]) Option.none)]) (.exit 1)) .skip)) (.seq (.region [(.mk (Option.some 28) (.mv (.tmp 5)) Option.none), (.mk (Option.some 29) (.fieldAddr 0 (.tmp 7)) Option.none), (.mk
  (Option.some 30) (.load 1 Bool.false (.tmp 29)) Option.none), (.mk (Option.some 31) (.fieldAddr 1 (.tmp 7)) Option.none), (.mk (Option.some 32) (.load 1 Bool.false (.tmp 31))
  Option.none), (.mk (Option.some 33) (.call 68 [(.tmp 28), (.tmp 30), (.tmp 32)]) Option.none), (.mk (Option.some 8) (.mv (.tmp 33)) Option.none)]) (.seq (.region [(.mk
  (Option.some 34) (.mv (.tmp 8)) Option.none), (.mk (Option.some 35) (.eq (.iface Bool.true) Bool.true (.tmp 34) (.const .nilIface)) Option.none)]) (.cond (.tmp 35) (.seq (.region
  [(.mk (Option.some 36) (.mv (.tmp 8)) Option.none), (.mk (Option.some 37) (.call 21 [(.tmp 36)]) Option.none), (.mk (Option.some 4) (.mv (.tmp 37)) Option.none)]) .ret)
  .skip)))))) (.region [(.mk (Option.some 38) (.bin .add (.tmp 17) (.const (.int .i64 1))) Option.none), (.mk (Option.some 17) (.mv (.tmp 38)) Option.none)]))))))) (.seq (.region
  [(.mk (Option.some 39) (.mv (.tmp 0)) Option.none), (.mk (Option.some 40) (.mv (.tmp 5)) Option.none), (.mk (Option.some 41) (.nilCheck (.tmp 40)) Option.none), (.mk (Option.some
  42) (.fieldAddr 0 (.tmp 41)) Option.none), (.mk (Option.some 43) (.load 1 Bool.false (.tmp 42)) Option.none), (.mk (Option.some 44) (.nilCheck (.tmp 39)) Option.none), (.mk
  (Option.some 45) (.fieldAddr 0 (.tmp 44)) Option.none), (.mk Option.none (.store 1 (.tmp 45) (.tmp 43)) Option.none)]) (.seq (.region [(.mk (Option.some 4) (.mv (.const (.int
  .i64 0))) Option.none)]) .ret))))))) 46 [(.tmp 4)])
def a43 : AFn :=
  (.mk (.seq (.region [(.mk (Option.some 4) (.mv (.const .nilIface)) Option.none)]) (.seq (.seq (.region [(.mk (Option.some 12) (.mv (.tmp 1)) Option.none), (.mk (Option.some 13)
  (.len (.tmp 12)) Option.none), (.mk (Option.some 14) (.bin .eql (.tmp 13) (.const (.int .i64 0))) Option.none)]) (.cond (.tmp 14) (.seq (.region [(.mk (Option.some 4) (.mv
  (.const .nilIface)) Option.none)]) .ret) .skip)) (.seq (.region [(.mk (Option.some 5) (.mv (.const (.slice Option.none 0 0))) Option.none)]) (.seq (.seq (.region [(.mk
  (Option.some 15) (.mv (.tmp 1)) Option.none), (.mk (Option.some 16) (.len (.tmp 15)) Option.none), (.mk (Option.some 17) (.mv (.const (.int .i64 0))) Option.none)]) (.block 0
  (.loop (.seq (.region [(.mk (Option.some 18) (.bin .lss (.tmp 17) (.tmp 16)) Option.none)]) (.seq (.cond (.tmp 18) .skip (.exit 0)) (.seq (.block 1 (.seq (.region [(.mk
  (Option.some 19) (.mv (.tmp 17)) Option.none), (.mk (Option.some 20) (.atSlice 1 (.tmp 15) (.tmp 17)) Option.none), (.mk (Option.some 21) (.load 1 Bool.false (.tmp 20))
  Option.none), (.mk (Option.some 6) (.mv (.tmp 19)) Option.none), (.mk (Option.some 7) (.mv (.tmp 21)) Option.none)]) (.seq (.seq (.region [(.mk (Option.some 22) (.mv (.tmp 7))
  Option.none), (.mk (Option.some 23) (.len (.tmp 22)) Option.none), (.mk (Option.some 24) (.bin .gtr (.tmp 23) (.const (.int .i64 16383))) Option.none)]) (.cond (.tmp 24) (.seq
  (.region [(.mk (Option.some 25) (.mv (.tmp 6)) Option.none), (.mk (Option.some 26) (.mv (.tmp 7)) Option.none), (.mk (Option.some 27) (.len (.tmp 26)) Option.none), (.mk
  (Option.some 28) (.call 35 [(.const (.int .i64 7))]) Option.none), (.mk (Option.some 29) (.call 39 [(.const (.int .i64 16383)), (.tmp 27), (.tmp 28)]) Option.none), (.mk
  (Option.some 30) (.call 18 [(.tmp 25), (.tmp 29)]) Option.none), (.mk (Option.some 4) (.mv (.tmp 30)) Option.none)]) .ret) .skip)) (.region [(.mk (Option.some 31) (.mv (.tmp 5))
  Option.none), (.mk (Option.some 32) (.buildSlice 1 1 [(.int .u8 0)] [(0, (1, (.const (.int .u8 0))))]) Option.none), (.mk (Option.some 33) (.mv (.tmp 7)) Option.none), (.mk
  (Option.some 34) (.buildSlice 2 1 [(.slice Option.none 0 0 0 0), (.slice Option.none 0 0 0 0)] [(0, (1, (.tmp 32))), (1, (1, (.tmp 33)))]) Option.none), (.mk (Option.some 35)
  (.call 52 [(.tmp 34)]) Option.none), (.mk (Option.some 36) (.append Bool.false 1 1 (.tmp 31) (.tmp 35)) Option.none), (.mk (Option.some 5) (.mv (.tmp 36)) Option.none)]))))
  (.region [(.mk (Option.some 37) (.bin .add (.tmp 17) (.const (.int .i64 1))) Option.none), (.mk (Option.some 17) (.mv (.tmp 37)) Option.none)]))))))) (.seq (.region [(.mk
  (Option.some 39) (.mv (.tmp 0)) Option.none), (.mk (Option.some 40) (.mv (.tmp 5)) Option.none), (.mk (Option.some 41) (.len (.tmp 40)) Option.none), (.mk (Option.some 42) (.call
  78 [(.tmp 39), (.tmp 41)]) Option.none), (.mk (Option.some 38) (.mv (.tmp 42)) Option.none), (.mk (Option.some 43) (.extract (.tmp 38) 0) Option.none), (.mk (Option.some 44)
  (.extract (.tmp 38) 1) Option.none), (.mk (Option.some 8) (.mv (.tmp 43)) Option.none), (.mk (Option.some 9) (.mv (.tmp 44)) Option.none)]) (.seq (.seq (.region [(.mk
  (Option.some 45) (.mv (.tmp 9)) Option.none), (.mk (Option.some 46) (.eq (.iface Bool.true) Bool.false (.tmp 45) (.const .nilIface)) Option.none)]) (.cond (.tmp 46) (.region
  [(.mk (Option.some 47) (.mv (.tmp 8)) Option.none), (.mk (Option.some 48) (.mv (.tmp 0)) Option.none), (.mk (Option.some 49) (.nilCheck (.tmp 48)) Option.none), (.mk (Option.some
  50) (.fieldAddr 0 (.tmp 49)) Option.none), (.mk (Option.some 51) (.load 1 Bool.false (.tmp 50)) Option.none), (.mk (Option.some 52) (.mv (.tmp 8)) Option.none), (.mk (Option.some
  53) (.mv (.tmp 5)) Option.none), (.mk (Option.some 54) (.buildSlice 1 1 [(.slice Option.none 0 0 0 0)] [(0, (1, (.tmp 53)))]) Option.none), (.mk (Option.some 55) (.call 51 [(.tmp
  51), (.tmp 52), (.tmp 54)]) Option.none), (.mk (Option.some 56) (.call 50 [(.tmp 47), (.tmp 55)]) Option.none), (.mk (Option.some 9) (.mv (.tmp 56)) Option.none)]) .skip)) (.seq
  (.seq (.region [(.mk (Option.some 57) (.mv (.tmp 9)) Option.none), (.mk (Option.some 58) (.eq (.iface Bool.true) Bool.true (.tmp 57) (.const .nilIface)) Option.none)]) (.cond
  (.tmp 58) (.seq (.region [(.mk (Option.some 59) (.mv (.tmp 9)) Option.none), (.mk (Option.some 4) (.mv (.tmp 59)) Option.none)]) .ret) .skip)) (.seq (.region [(.mk (Option.some
  60) (.mv (.tmp 0)) Option.none), (.mk (Option.some 61) (.mv (.tmp 8)) Option.none), (.mk (Option.some 62) (.nilCheck (.tmp 60)) Option.none), (.mk (Option.some 63) (.fieldAddr 2
  (.tmp 62)) Option.none), (.mk Option.none (.store 1 (.tmp 63) (.tmp 61)) Option.none)]) (.seq (.seq (.region [(.mk (Option.some 64) (.mv (.tmp 1)) Option.none), (.mk (Option.some
  65) (.len (.tmp 64)) Option.none), (.mk (Option.some 66) (.mv (.const (.int .i64 0))) Option.none)]) (.block 2 (.loop (.seq (.region [(.mk (Option.some 67) (.bin .lss (.tmp 66)
  (.tmp 65)) Option.none)]) (.seq (.cond (.tmp 67) .skip (.exit 2)) (.seq (.block 3 (.seq (.region [(.mk (Option.some 68) (.atSlice 1 (.tmp 64) (.tmp 66)) Option.none), (.mk
  (Option.some 69) (.load 1 Bool.false (.tmp 68)) Option.none), (.mk (Option.some 11) (.mv (.tmp 69)) Option.none)]) (.draws [((.mk (Option.some 70) (.mv (.tmp 0)) Option.none),
  (0, 11)), ((.mk (Option.some 71) (.mv (.tmp 0)) Option.none), (0, 8)), ((.mk (Option.some 72) (.nilCheck (.tmp 71)) Option.none), (0, 8)), ((.mk (Option.some 73) (.fieldAddr 4
  (.tmp 72)) Option.none), (0, 8)), ((.mk (Option.some 74) (.load 1 Bool.false (.tmp 73)) Option.none), (0, 8)), ((.mk (Option.some 75) (.mv (.tmp 11)) Option.none), (0, 6)), ((.mk
  (Option.some 76) (.call 30 [(.tmp 75)]) Option.none), (0, 7)), ((.mk (Option.some 77) (.buildSlice 1 1 [(.slice Option.none 0 0 0 0)] [(0, (1, (.tmp 76)))]) Option.none), (7,
  8)), ((.mk (Option.some 78) (.append Bool.false 1 24 (.tmp 74) (.tmp 77)) Option.none), (8, 11)), ((.mk (Option.some 79) (.nilCheck (.tmp 70)) Option.none), (9, 11)), ((.mk
  (Option.some 80) (.fieldAddr 4 (.tmp 79)) Option.none), (9, 11)), ((.mk Option.none (.store 1 (.tmp 80) (.tmp 78)) Option.none), (9, 12))]))) (.region [(.mk (Option.some 81)
  (.bin .add (.tmp 66) (.const (.int .i64 1))) Option.none), (.mk (Option.some 66) (.mv (.tmp 81)) Option.none)]))))))) (.seq (.region [(.mk (Option.some 4) (.mv (.const
  .nilIface)) Option.none)]) .ret)))))))))) 82 [(.tmp 4)])
def a44 : AFn :=
  (.mk (.seq (.region [(.mk (Option.some 2) (.mv (.const (.int .i64 0))) Option.none)]) (.seq (.block 0 (.seq (.region [(.mk (Option.some 4) (.mv (.tmp 0)) Option.none), (.mk
  (Option.some 5) (.eq .ptr Bool.false (.tmp 4) (.const (.pointer Option.none))) Option.none), (.mk (Option.some 3) (.mv (.tmp 5)) Option.none)]) (.cond (.tmp 3) (.seq (.region
  [(.mk (Option.some 2) (.mv (.const (.int .i64 1))) Option.none)]) .ret) (.seq (.region [(.mk (Option.some 7) (.mv (.tmp 0)) Option.none), (.mk (Option.some 8) (.nilCheck (.tmp
  7)) Option.none), (.mk (Option.some 9) (.fieldAddr 2 (.tmp 8)) Option.none), (.mk (Option.some 10) (.load 1 Bool.false (.tmp 9)) Option.none), (.mk (Option.some 11) (.bin .lss
  (.tmp 10) (.const (.int .i64 0))) Option.none), (.mk (Option.some 6) (.mv (.tmp 11)) Option.none)]) (.cond (.tmp 6) (.seq (.region [(.mk (Option.some 2) (.mv (.const (.int .i64
  0))) Option.none)]) .ret) .skip))))) (.seq (.draws [((.mk (Option.some 12) (.mv (.tmp 0)) Option.none), (0, 8)), ((.mk (Option.some 13) (.nilCheck (.tmp 12)) Option.none), (0,
  8)), ((.mk (Option.some 14) (.fieldAddr 0 (.tmp 13)) Option.none), (0, 8)), ((.mk (Option.some 15) (.load 1 Bool.false (.tmp 14)) Option.none), (0, 8)), ((.mk (Option.some 16)
  (.mv (.tmp 0)) Option.none), (0, 8)), ((.mk (Option.some 17) (.nilCheck (.tmp 16)) Option.none), (0, 8)), ((.mk (Option.some 18) (.fieldAddr 2 (.tmp 17)) Option.none), (0, 8)),
  ((.mk (Option.some 19) (.load 1 Bool.false (.tmp 18)) Option.none), (0, 8)), ((.mk (Option.some 20) (.call 53 [(.tmp 15), (.tmp 19)]) Option.none), (0, 10)), ((.mk (Option.some
  2) (.mv (.tmp 20)) Option.none), (9, 10))]) .ret))) 21 [(.tmp 2)])
def a45 : AFn :=
  (.mk (.seq (.region [(.mk (Option.some 2) (.mv (.const (.slice Option.none 0 0))) Option.none)]) (.seq (.region [(.mk (Option.some 3) (.mv (.const (.slice Option.none 0 0)))
  Option.none)]) (.seq (.seq (.region [(.mk (Option.some 6) (.mv (.tmp 0)) Option.none), (.mk (Option.some 7) (.len (.tmp 6)) Option.none), (.mk (Option.some 8) (.mv (.const (.int
  .i64 0))) Option.none)]) (.block 0 (.loop (.seq (.region [(.mk (Option.some 9) (.bin .lss (.tmp 8) (.tmp 7)) Option.none)]) (.seq (.cond (.tmp 9) .skip (.exit 0)) (.seq (.block 1
  (.seq (.region [(.mk (Option.some 10) (.atSlice 1 (.tmp 6) (.tmp 8)) Option.none), (.mk (Option.some 11) (.load 1 Bool.false (.tmp 10)) Option.none), (.mk (Option.some 5) (.mv
  (.tmp 11)) Option.none)]) (.region [(.mk (Option.some 12) (.mv (.tmp 3)) Option.none), (.mk (Option.some 13) (.mv (.tmp 5)) Option.none), (.mk (Option.some 14) (.append
  Bool.false 1 1 (.tmp 12) (.tmp 13)) Option.none), (.mk (Option.some 3) (.mv (.tmp 14)) Option.none)]))) (.region [(.mk (Option.some 15) (.bin .add (.tmp 8) (.const (.int .i64
  1))) Option.none), (.mk (Option.some 8) (.mv (.tmp 15)) Option.none)]))))))) (.seq (.region [(.mk (Option.some 16) (.mv (.tmp 3)) Option.none), (.mk (Option.some 2) (.mv (.tmp
  16)) Option.none)]) .ret)))) 17 [(.tmp 2)])
def a46 : AFn :=
  (.mk (.seq (.region [(.mk (Option.some 2) (.mv (.const (.slice Option.none 0 0))) Option.none)]) (.seq (.region [(.mk (Option.some 3) (.alloc [(.int .u8 0), (.int .u8 0), (.int .u8
  0), (.int .u8 0), (.int .u8 0), (.int .u8 0), (.int .u8 0), (.int .u8 0), (.int .u8 0)]) Option.none)]) (.seq (.region [(.mk (Option.some 4) (.mv (.const (.int .i64 0)))
  Option.none)]) (.seq (.seq (.region [(.mk (Option.some 6) (.mv (.tmp 0)) Option.none), (.mk (Option.some 5) (.mv (.tmp 6)) Option.none)]) (.block 0 (.loop (.seq (.seq (.region
  [(.mk (Option.some 7) (.mv (.tmp 5)) Option.none), (.mk (Option.some 8) (.bin .gtr (.tmp 7) (.const (.int .u64 0))) Option.none)]) (.cond (.tmp 8) .skip (.exit 0))) (.seq (.block
  1 (.seq (.region [(.mk (Option.some 11) (.mv (.tmp 4)) Option.none), (.mk (Option.some 12) (.bin .add (.tmp 11) (.const (.int .i64 1))) Option.none), (.mk (Option.some 4) (.mv
  (.tmp 12)) Option.none)]) (.region [(.mk (Option.some 13) (.mv (.tmp 4)) Option.none), (.mk (Option.some 14) (.bin .sub (.const (.int .i64 9)) (.tmp 13)) Option.none), (.mk
  (Option.some 15) (.mv (.tmp 5)) Option.none), (.mk (Option.some 16) (.conv .u8 (.tmp 15)) Option.none), (.mk (Option.some 17) (.atArray 9 1 (.tmp 3) (.tmp 14)) Option.none), (.mk
  Option.none (.store 1 (.tmp 17) (.tmp 16)) Option.none)]))) (.region [(.mk (Option.some 9) (.mv (.tmp 5)) Option.none), (.mk (Option.some 10) (.bin .shr (.tmp 9) (.const (.int
  .u64 8))) Option.none), (.mk (Option.some 5) (.mv (.tmp 10)) Option.none)])))))) (.seq (.region [(.mk (Option.some 18) (.mv (.tmp 4)) Option.none), (.mk (Option.some 19) (.bin
  .sub (.const (.int .i64 8)) (.tmp 18)) Option.none), (.mk (Option.some 20) (.mv (.tmp 4)) Option.none), (.mk (Option.some 21) (.conv .u8 (.tmp 20)) Option.none), (.mk
  (Option.some 22) (.atArray 9 1 (.tmp 3) (.tmp 19)) Option.none), (.mk Option.none (.store 1 (.tmp 22) (.tmp 21)) Option.none)]) (.seq (.region [(.mk (Option.some 23) (.buildSlice
  0 1 [] []) Option.none), (.mk (Option.some 24) (.mv (.tmp 4)) Option.none), (.mk (Option.some 25) (.bin .sub (.const (.int .i64 8)) (.tmp 24)) Option.none), (.mk (Option.some 26)
  (.cutArray 9 1 (.tmp 3) (Option.some (.tmp 25)) Option.none Option.none) Option.none), (.mk (Option.some 27) (.append Bool.false 1 1 (.tmp 23) (.tmp 26)) Option.none), (.mk
  (Option.some 2) (.mv (.tmp 27)) Option.none)]) .ret)))))) 28 [(.tmp 2)])
def a47 : AFn :=
  (.mk (.seq (.region [(.mk (Option.some 2) (.mv (.const (.slice Option.none 0 0))) Option.none)]) (.seq (.region [(.mk (Option.some 6) (.mv (.tmp 0)) Option.none), (.mk (Option.some
  7) (.len (.tmp 6)) Option.none), (.mk (Option.some 8) (.conv .u64 (.tmp 7)) Option.none), (.mk (Option.some 9) (.call 46 [(.tmp 8)]) Option.none), (.mk (Option.some 3) (.mv (.tmp
  9)) Option.none)]) (.seq (.seq (.region [(.mk (Option.some 10) (.mv (.tmp 0)) Option.none), (.mk (Option.some 11) (.len (.tmp 10)) Option.none), (.mk (Option.some 12) (.mv
  (.const (.int .i64 0))) Option.none)]) (.block 0 (.loop (.seq (.region [(.mk (Option.some 13) (.bin .lss (.tmp 12) (.tmp 11)) Option.none)]) (.seq (.cond (.tmp 13) .skip (.exit
  0)) (.seq (.block 1 (.seq (.region [(.mk (Option.some 14) (.atSlice 3 (.tmp 10) (.tmp 12)) Option.none), (.mk (Option.some 15) (.load 3 Bool.true (.tmp 14)) Option.none), (.mk
  (Option.some 5) (.alloc [(.str []), (.int .i64 0), (.bool Bool.false)]) Option.none), (.mk Option.none (.store 3 (.tmp 5) (.tmp 15)) Option.none)]) (.seq (.draws [((.mk
  (Option.some 16) (.mv (.tmp 3)) Option.none), (0, 9)), ((.mk (Option.some 17) (.fieldAddr 0 (.tmp 5)) Option.none), (0, 3)), ((.mk (Option.some 18) (.load 1 Bool.false (.tmp 17))
  Option.none), (0, 3)), ((.mk (Option.some 19) (.call 79 [(.tmp 18)]) Option.none), (0, 6)), ((.mk (Option.some 20) (.fieldAddr 2 (.tmp 5)) Option.none), (0, 6)), ((.mk
  (Option.some 21) (.load 1 Bool.false (.tmp 20)) Option.none), (0, 6)), ((.mk (Option.some 22) (.call 80 [(.tmp 21)]) Option.none), (4, 7)), ((.mk (Option.some 23) (.buildSlice 2
  1 [(.slice Option.none 0 0 0 0), (.slice Option.none 0 0 0 0)] [(0, (1, (.tmp 19))), (1, (1, (.tmp 22)))]) Option.none), (7, 8)), ((.mk (Option.some 24) (.call 45 [(.tmp 23)])
  Option.none), (8, 9)), ((.mk (Option.some 25) (.append Bool.false 1 1 (.tmp 16) (.tmp 24)) Option.none), (9, 11)), ((.mk (Option.some 3) (.mv (.tmp 25)) Option.none), (10, 11))])
  (.seq (.region [(.mk (Option.some 26) (.fieldAddr 2 (.tmp 5)) Option.none), (.mk (Option.some 27) (.load 1 Bool.false (.tmp 26)) Option.none)]) (.cond (.tmp 27) (.region [(.mk
  (Option.some 28) (.mv (.tmp 3)) Option.none), (.mk (Option.some 29) (.fieldAddr 1 (.tmp 5)) Option.none), (.mk (Option.some 30) (.load 1 Bool.false (.tmp 29)) Option.none), (.mk
  (Option.some 31) (.call 81 [(.tmp 30)]) Option.none), (.mk (Option.some 32) (.append Bool.false 1 1 (.tmp 28) (.tmp 31)) Option.none), (.mk (Option.some 3) (.mv (.tmp 32))
  Option.none)]) .skip))))) (.region [(.mk (Option.some 33) (.bin .add (.tmp 12) (.const (.int .i64 1))) Option.none), (.mk (Option.some 12) (.mv (.tmp 33)) Option.none)])))))))
  (.seq (.region [(.mk (Option.some 34) (.mv (.tmp 3)) Option.none), (.mk (Option.some 2) (.mv (.tmp 34)) Option.none)]) .ret)))) 35 [(.tmp 2)])
def a49 : AFn :=
  (.mk (.seq (.region [(.mk (Option.some 1) (.box (.tmp 0)) Option.none), (.mk (Option.some 2) (.mv (.const .nilFunc)) Option.none)]) (.seq (.region [(.mk (Option.some 3) (.mkFunc
  (.func 84) [] [(.tmp 1)]) Option.none), (.mk (Option.some 2) (.mv (.tmp 3)) Option.none)]) .ret)) 4 [(.tmp 2)])
def a50 : AFn :=
  (.mk (.seq (.region [(.mk (Option.some 4) (.mv (.const .nilIface)) Option.none)]) (.seq (.region [(.mk (Option.some 5) (.mv (.tmp 0)) Option.none), (.mk (Option.some 6) (.mv (.tmp
  1)) Option.none), (.mk (Option.some 7) (.call 35 [(.tmp 6)]) Option.none), (.mk (Option.some 8) (.call 18 [(.tmp 5), (.tmp 7)]) Option.none), (.mk (Option.some 4) (.mv (.tmp 8))
  Option.none)]) .ret)) 9 [(.tmp 4)])
def a51 : AFn :=
  (.mk (.seq (.region [(.mk (Option.some 6) (.mv (.const (.int .i64 0))) Option.none)]) (.seq (.region [(.mk (Option.some 12) (.mv (.tmp 0)) Option.none), (.mk (Option.some 13) (.mv
  (.tmp 1)) Option.none), (.mk (Option.some 14) (.call 85 [(.tmp 12), (.tmp 13), (.const (.bool Bool.true))]) Option.none), (.mk (Option.some 7) (.mv (.tmp 14)) Option.none)])
  (.seq (.seq (.region [(.mk (Option.some 15) (.mv (.tmp 7)) Option.none), (.mk (Option.some 16) (.eq (.iface Bool.true) Bool.false (.tmp 15) (.const .nilIface)) Option.none)])
  (.cond (.tmp 16) (.region [(.mk (Option.some 17) (.mv (.tmp 0)) Option.none), (.mk (Option.some 18) (.mv (.tmp 1)) Option.none), (.mk (Option.some 19) (.mv (.tmp 2))
  Option.none), (.mk (Option.some 20) (.call 86 [(.tmp 17), (.tmp 18), (.tmp 19)]) Option.none), (.mk (Option.some 7) (.mv (.tmp 20)) Option.none)]) .skip)) (.seq (.seq (.region
  [(.mk (Option.some 21) (.mv (.tmp 7)) Option.none), (.mk (Option.some 22) (.eq (.iface Bool.true) Bool.true (.tmp 21) (.const .nilIface)) Option.none)]) (.cond (.tmp 22) (.seq
  (.region [(.mk (Option.some 23) (.mv (.tmp 7)) Option.none), (.mk (Option.some 24) (.call 21 [(.tmp 23)]) Option.none), (.mk (Option.some 6) (.mv (.tmp 24)) Option.none)]) .ret)
  .skip)) (.seq (.region [(.mk (Option.some 25) (.mv (.tmp 0)) Option.none), (.mk (Option.some 26) (.nilCheck (.tmp 25)) Option.none), (.mk (Option.some 27) (.fieldAddr 1 (.tmp
  26)) Option.none), (.mk (Option.some 28) (.load 1 Bool.false (.tmp 27)) Option.none), (.mk (Option.some 29) (.mv (.tmp 1)) Option.none), (.mk (Option.some 30) (.lookup (.int
  .i64) (.agg [(.slice Option.none 0 0 0 0), (.int .i64 0)]) Bool.false (.tmp 28) (.tmp 29)) Option.none), (.mk (Option.some 8) (.alloc [(.slice Option.none 0 0 0 0), (.int .i64
  0)]) Option.none), (.mk Option.none (.store 2 (.tmp 8) (.tmp 30)) Option.none)]) (.seq (.region [(.mk (Option.some 31) (.fieldAddr 0 (.tmp 8)) Option.none), (.mk (Option.some 32)
  (.load 1 Bool.false (.tmp 31)) Option.none), (.mk (Option.some 33) (.call 30 [(.tmp 32)]) Option.none), (.mk (Option.some 9) (.mv (.tmp 33)) Option.none)]) (.seq (.seq (.region
  [(.mk (Option.some 34) (.mv (.tmp 2)) Option.none), (.mk (Option.some 35) (.len (.tmp 34)) Option.none), (.mk (Option.some 36) (.mv (.const (.int .i64 0))) Option.none)]) (.block
  0 (.loop (.seq (.region [(.mk (Option.some 37) (.bin .lss (.tmp 36) (.tmp 35)) Option.none)]) (.seq (.cond (.tmp 37) .skip (.exit 0)) (.seq (.block 1 (.seq (.region [(.mk
  (Option.some 38) (.atSlice 1 (.tmp 34) (.tmp 36)) Option.none), (.mk (Option.some 39) (.load 1 Bool.false (.tmp 38)) Option.none), (.mk (Option.some 11) (.mv (.tmp 39))
  Option.none)]) (.region [(.mk (Option.some 40) (.mv (.tmp 9)) Option.none), (.mk (Option.some 41) (.mv (.tmp 11)) Option.none), (.mk (Option.some 42) (.append Bool.false 1 1
  (.tmp 40) (.tmp 41)) Option.none), (.mk (Option.some 9) (.mv (.tmp 42)) Option.none)]))) (.region [(.mk (Option.some 43) (.bin .add (.tmp 36) (.const (.int .i64 1)))
  Option.none), (.mk (Option.some 36) (.mv (.tmp 43)) Option.none)]))))))) (.seq (.region [(.mk (Option.some 44) (.mv (.tmp 0)) Option.none), (.mk (Option.some 45) (.mv (.tmp 1))
  Option.none), (.mk (Option.some 46) (.mv (.tmp 9)) Option.none), (.mk (Option.some 47) (.fieldAddr 1 (.tmp 8)) Option.none), (.mk (Option.some 48) (.load 1 Bool.false (.tmp 47))
  Option.none), (.mk (Option.some 49) (.build [(.slice Option.none 0 0 0 0), (.int .i64 0)] [(0, (1, (.tmp 46))), (1, (1, (.tmp 48)))]) Option.none), (.mk (Option.some 50) (.call
  87 [(.tmp 44), (.tmp 45), (.tmp 49)]) Option.none), (.mk (Option.some 6) (.mv (.tmp 50)) Option.none)]) .ret)))))))) 51 [(.tmp 6)])
def a52 : AFn :=
  (.mk (.seq (.region [(.mk (Option.some 2) (.mv (.const (.slice Option.none 0 0))) Option.none)]) (.seq (.region [(.mk (Option.some 3) (.mv (.const (.int .i64 0))) Option.none)])
  (.seq (.seq (.region [(.mk (Option.some 10) (.mv (.tmp 0)) Option.none), (.mk (Option.some 11) (.len (.tmp 10)) Option.none), (.mk (Option.some 12) (.mv (.const (.int .i64 0)))
  Option.none)]) (.block 0 (.loop (.seq (.region [(.mk (Option.some 13) (.bin .lss (.tmp 12) (.tmp 11)) Option.none)]) (.seq (.cond (.tmp 13) .skip (.exit 0)) (.seq (.block 1 (.seq
  (.region [(.mk (Option.some 14) (.atSlice 1 (.tmp 10) (.tmp 12)) Option.none), (.mk (Option.some 15) (.load 1 Bool.false (.tmp 14)) Option.none), (.mk (Option.some 5) (.mv (.tmp
  15)) Option.none)]) (.seq (.seq (.region [(.mk (Option.some 16) (.mv (.tmp 5)) Option.none), (.mk (Option.some 17) (.len (.tmp 16)) Option.none), (.mk (Option.some 18) (.mv (.tmp
  3)) Option.none), (.mk (Option.some 19) (.bin .sub (.const (.int .i64 16384)) (.tmp 18)) Option.none), (.mk (Option.some 20) (.bin .gtr (.tmp 17) (.tmp 19)) Option.none)]) (.cond
  (.tmp 20) (.seq (.region [(.mk (Option.some 2) (.mv (.const (.slice Option.none 0 0))) Option.none)]) .ret) .skip)) (.region [(.mk (Option.some 21) (.mv (.tmp 3)) Option.none),
  (.mk (Option.some 22) (.mv (.tmp 5)) Option.none), (.mk (Option.some 23) (.len (.tmp 22)) Option.none), (.mk (Option.some 24) (.bin .add (.tmp 21) (.tmp 23)) Option.none), (.mk
  (Option.some 3) (.mv (.tmp 24)) Option.none)])))) (.region [(.mk (Option.some 25) (.bin .add (.tmp 12) (.const (.int .i64 1))) Option.none), (.mk (Option.some 12) (.mv (.tmp 25))
  Option.none)]))))))) (.seq (.region [(.mk (Option.some 26) (.mv (.tmp 3)) Option.none), (.mk (Option.some 27) (.bin .add (.tmp 26) (.const (.int .i64 3))) Option.none), (.mk
  (Option.some 28) (.bin .add (.tmp 27) (.const (.int .i64 4))) Option.none), (.mk (Option.some 29) (.makeSlice 1 1 [(.int .u8 0)] (.const (.int .i64 0)) (.tmp 28)) Option.none),
  (.mk (Option.some 30) (.mv (.tmp 3)) Option.none), (.mk (Option.some 31) (.bin .shr (.tmp 30) (.const (.int .u64 8))) Option.none), (.mk (Option.some 32) (.conv .u8 (.tmp 31))
  Option.none), (.mk (Option.some 33) (.mv (.tmp 3)) Option.none), (.mk (Option.some 34) (.conv .u8 (.tmp 33)) Option.none), (.mk (Option.some 35) (.buildSlice 3 1 [(.int .u8 0),
  (.int .u8 0), (.int .u8 0)] [(0, (1, (.const (.int .u8 167)))), (1, (1, (.tmp 32))), (2, (1, (.tmp 34)))]) Option.none), (.mk (Option.some 36) (.append Bool.false 1 1 (.tmp 29)
  (.tmp 35)) Option.none), (.mk (Option.some 6) (.mv (.tmp 36)) Option.none)]) (.seq (.seq (.region [(.mk (Option.some 37) (.mv (.tmp 0)) Option.none), (.mk (Option.some 38) (.len
  (.tmp 37)) Option.none), (.mk (Option.some 39) (.mv (.const (.int .i64 0))) Option.none)]) (.block 2 (.loop (.seq (.region [(.mk (Option.some 40) (.bin .lss (.tmp 39) (.tmp 38))
  Option.none)]) (.seq (.cond (.tmp 40) .skip (.exit 2)) (.seq (.block 3 (.seq (.region [(.mk (Option.some 41) (.atSlice 1 (.tmp 37) (.tmp 39)) Option.none), (.mk (Option.some 42)
  (.load 1 Bool.false (.tmp 41)) Option.none), (.mk (Option.some 8) (.mv (.tmp 42)) Option.none)]) (.region [(.mk (Option.some 43) (.mv (.tmp 6)) Option.none), (.mk (Option.some
  44) (.mv (.tmp 8)) Option.none), (.mk (Option.some 45) (.append Bool.false 1 1 (.tmp 43) (.tmp 44)) Option.none), (.mk (Option.some 6) (.mv (.tmp 45)) Option.none)]))) (.region
  [(.mk (Option.some 46) (.bin .add (.tmp 39) (.const (.int .i64 1))) Option.none), (.mk (Option.some 39) (.mv (.tmp 46)) Option.none)]))))))) (.seq (.region [(.mk (Option.some 47)
  (.mv (.tmp 6)) Option.none), (.mk (Option.some 48) (.buildSlice 1 1 [(.slice Option.none 0 0 0 0)] [(0, (1, (.tmp 47)))]) Option.none), (.mk (Option.some 49) (.call 88 [(.tmp
  48)]) Option.none), (.mk (Option.some 9) (.mv (.tmp 49)) Option.none)]) (.seq (.region [(.mk (Option.some 50) (.mv (.tmp 6)) Option.none), (.mk (Option.some 51) (.mv (.tmp 9))
  Option.none), (.mk (Option.some 52) (.bin .shr (.tmp 51) (.const (.int .u64 24))) Option.none), (.mk (Option.some 53) (.conv .u8 (.tmp 52)) Option.none), (.mk (Option.some 54)
  (.mv (.tmp 9)) Option.none), (.mk (Option.some 55) (.bin .shr (.tmp 54) (.const (.int .u64 16))) Option.none), (.mk (Option.some 56) (.conv .u8 (.tmp 55)) Option.none), (.mk
  (Option.some 57) (.mv (.tmp 9)) Option.none), (.mk (Option.some 58) (.bin .shr (.tmp 57) (.const (.int .u64 8))) Option.none), (.mk (Option.some 59) (.conv .u8 (.tmp 58))
  Option.none), (.mk (Option.some 60) (.mv (.tmp 9)) Option.none), (.mk (Option.some 61) (.conv .u8 (.tmp 60)) Option.none), (.mk (Option.some 62) (.buildSlice 4 1 [(.int .u8 0),
  (.int .u8 0), (.int .u8 0), (.int .u8 0)] [(0, (1, (.tmp 53))), (1, (1, (.tmp 56))), (2, (1, (.tmp 59))), (3, (1, (.tmp 61)))]) Option.none), (.mk (Option.some 63) (.append
  Bool.false 1 1 (.tmp 50) (.tmp 62)) Option.none), (.mk (Option.some 2) (.mv (.tmp 63)) Option.none)]) .ret))))))) 64 [(.tmp 2)])
def a53 : AFn :=
  (.mk (.seq (.region [(.mk (Option.some 4) (.mv (.const (.int .i64 0))) Option.none)]) (.seq (.seq (.region [(.mk (Option.some 7) (.mv (.tmp 0)) Option.none), (.mk (Option.some 8)
  (.mv (.tmp 1)) Option.none), (.mk (Option.some 9) (.call 85 [(.tmp 7), (.tmp 8), (.const (.bool Bool.false))]) Option.none), (.mk (Option.some 5) (.mv (.tmp 9)) Option.none)])
  (.seq (.region [(.mk (Option.some 10) (.mv (.tmp 5)) Option.none), (.mk (Option.some 11) (.eq (.iface Bool.true) Bool.true (.tmp 10) (.const .nilIface)) Option.none)]) (.cond
  (.tmp 11) (.seq (.region [(.mk (Option.some 12) (.mv (.tmp 5)) Option.none), (.mk (Option.some 13) (.call 21 [(.tmp 12)]) Option.none), (.mk (Option.some 4) (.mv (.tmp 13))
  Option.none)]) .ret) .skip))) (.seq (.region [(.mk (Option.some 14) (.mv (.tmp 0)) Option.none), (.mk (Option.some 15) (.nilCheck (.tmp 14)) Option.none), (.mk (Option.some 16)
  (.fieldAddr 1 (.tmp 15)) Option.none), (.mk (Option.some 17) (.load 1 Bool.false (.tmp 16)) Option.none), (.mk (Option.some 18) (.mv (.tmp 1)) Option.none), (.mk (Option.some 19)
  (.lookup (.int .i64) (.agg [(.slice Option.none 0 0 0 0), (.int .i64 0)]) Bool.false (.tmp 17) (.tmp 18)) Option.none), (.mk (Option.some 20) (.field 0 1 Bool.false (.tmp 19))
  Option.none), (.mk (Option.some 6) (.mv (.tmp 20)) Option.none)]) (.seq (.region [(.mk (Option.some 21) (.mv (.tmp 0)) Option.none), (.mk (Option.some 22) (.mv (.tmp 1))
  Option.none), (.mk (Option.some 23) (.mv (.tmp 6)) Option.none), (.mk (Option.some 24) (.mv (.tmp 6)) Option.none), (.mk (Option.some 25) (.len (.tmp 24)) Option.none), (.mk
  (Option.some 26) (.build [(.slice Option.none 0 0 0 0), (.int .i64 0)] [(0, (1, (.tmp 23))), (1, (1, (.tmp 25)))]) Option.none), (.mk (Option.some 27) (.call 87 [(.tmp 21), (.tmp
  22), (.tmp 26)]) Option.none), (.mk (Option.some 4) (.mv (.tmp 27)) Option.none)]) .ret)))) 28 [(.tmp 4)])
def a54 : AFn :=
  (.mk (.seq (.region [(.mk (Option.some 4) (.mv (.const (.int .i64 0))) Option.none)]) (.seq (.region [(.mk (Option.some 6) (.mv (.tmp 0)) Option.none), (.mk (Option.some 7) (.mv
  (.tmp 1)) Option.none), (.mk (Option.some 8) (.call 85 [(.tmp 6), (.tmp 7), (.const (.bool Bool.false))]) Option.none), (.mk (Option.some 5) (.mv (.tmp 8)) Option.none)]) (.seq
  (.seq (.region [(.mk (Option.some 9) (.mv (.tmp 5)) Option.none), (.mk (Option.some 10) (.eq (.iface Bool.true) Bool.false (.tmp 9) (.const .nilIface)) Option.none)]) (.cond
  (.tmp 10) (.region [(.mk (Option.some 11) (.mv (.tmp 0)) Option.none), (.mk (Option.some 12) (.call 89 [(.tmp 11)]) Option.none), (.mk (Option.some 5) (.mv (.tmp 12))
  Option.none)]) .skip)) (.seq (.seq (.region [(.mk (Option.some 13) (.mv (.tmp 5)) Option.none), (.mk (Option.some 14) (.eq (.iface Bool.true) Bool.false (.tmp 13) (.const
  .nilIface)) Option.none)]) (.cond (.tmp 14) (.region [(.mk (Option.some 15) (.mv (.tmp 0)) Option.none), (.mk (Option.some 16) (.nilCheck (.tmp 15)) Option.none), (.mk
  (Option.some 17) (.fieldAddr 1 (.tmp 16)) Option.none), (.mk (Option.some 18) (.load 1 Bool.false (.tmp 17)) Option.none), (.mk (Option.some 19) (.mv (.tmp 1)) Option.none), (.mk
  Option.none (.mapDel (.int .i64) (.tmp 18) (.tmp 19)) Option.none)]) .skip)) (.seq (.region [(.mk (Option.some 20) (.mv (.tmp 5)) Option.none), (.mk (Option.some 21) (.call 21
  [(.tmp 20)]) Option.none), (.mk (Option.some 4) (.mv (.tmp 21)) Option.none)]) .ret))))) 22 [(.tmp 4)])
def a55 : AFn :=
  (.mk (.seq (.region [(.mk (Option.some 2) (.mv (.const .nilIface)) Option.none)]) (.seq (.seq (.region [(.mk (Option.some 6) (.mv (.tmp 0)) Option.none), (.mk (Option.some 7)
  (.nilCheck (.tmp 6)) Option.none), (.mk (Option.some 8) (.fieldAddr 0 (.tmp 7)) Option.none), (.mk (Option.some 9) (.load 1 Bool.false (.tmp 8)) Option.none), (.mk (Option.some
  10) (.call 56 [(.tmp 9)]) Option.none), (.mk (Option.some 11) (.len (.tmp 10)) Option.none), (.mk (Option.some 12) (.mv (.const (.int .i64 0))) Option.none)]) (.block 0 (.loop
  (.seq (.region [(.mk (Option.some 13) (.bin .lss (.tmp 12) (.tmp 11)) Option.none)]) (.seq (.cond (.tmp 13) .skip (.exit 0)) (.seq (.block 1 (.seq (.region [(.mk (Option.some 14)
  (.atSlice 1 (.tmp 10) (.tmp 12)) Option.none), (.mk (Option.some 15) (.load 1 Bool.false (.tmp 14)) Option.none), (.mk (Option.some 4) (.mv (.tmp 15)) Option.none)]) (.seq
  (.region [(.mk (Option.some 16) (.mv (.tmp 4)) Option.none), (.mk (Option.some 17) (.mv (.tmp 0)) Option.none), (.mk (Option.some 18) (.nilCheck (.tmp 17)) Option.none), (.mk
  (Option.some 19) (.fieldAddr 2 (.tmp 18)) Option.none), (.mk (Option.some 20) (.load 1 Bool.false (.tmp 19)) Option.none), (.mk (Option.some 21) (.bin .lss (.tmp 16) (.tmp 20))
  Option.none)]) (.cond (.tmp 21) (.seq (.region [(.mk (Option.some 22) (.mv (.tmp 4)) Option.none), (.mk (Option.some 23) (.mv (.tmp 0)) Option.none), (.mk (Option.some 24)
  (.nilCheck (.tmp 23)) Option.none), (.mk (Option.some 25) (.fieldAddr 0 (.tmp 24)) Option.none), (.mk (Option.some 26) (.load 1 Bool.false (.tmp 25)) Option.none), (.mk
  (Option.some 27) (.mv (.tmp 4)) Option.none), (.mk (Option.some 28) (.call 54 [(.tmp 26), (.tmp 27)]) Option.none), (.mk (Option.some 29) (.call 50 [(.tmp 22), (.tmp 28)])
  Option.none), (.mk (Option.some 5) (.mv (.tmp 29)) Option.none)]) (.seq (.region [(.mk (Option.some 30) (.mv (.tmp 5)) Option.none), (.mk (Option.some 31) (.eq (.iface Bool.true)
  Bool.true (.tmp 30) (.const .nilIface)) Option.none)]) (.cond (.tmp 31) (.seq (.region [(.mk (Option.some 32) (.mv (.tmp 5)) Option.none), (.mk (Option.some 2) (.mv (.tmp 32))
  Option.none)]) .ret) .skip))) .skip)))) (.region [(.mk (Option.some 33) (.bin .add (.tmp 12) (.const (.int .i64 1))) Option.none), (.mk (Option.some 12) (.mv (.tmp 33))
  Option.none)]))))))) (.seq (.region [(.mk (Option.some 2) (.mv (.const .nilIface)) Option.none)]) .ret))) 34 [(.tmp 2)])
def a56 : AFn :=
  (.mk (.seq (.region [(.mk (Option.some 2) (.mv (.const (.slice Option.none 0 0))) Option.none)]) (.seq (.seq (.region [(.mk (Option.some 5) (.mv (.tmp 0)) Option.none), (.mk
  (Option.some 6) (.eq .ptr Bool.false (.tmp 5) (.const (.pointer Option.none))) Option.none)]) (.cond (.tmp 6) (.seq (.region [(.mk (Option.some 2) (.mv (.const (.slice
  Option.none 0 0))) Option.none)]) .ret) .skip)) (.seq (.region [(.mk (Option.some 3) (.mv (.const (.slice Option.none 0 0))) Option.none)]) (.seq (.seq (.region [(.mk
  (Option.some 7) (.mv (.tmp 0)) Option.none), (.mk (Option.some 8) (.nilCheck (.tmp 7)) Option.none), (.mk (Option.some 9) (.fieldAddr 1 (.tmp 8)) Option.none), (.mk (Option.some
  10) (.load 1 Bool.false (.tmp 9)) Option.none), (.mk (Option.some 11) (.range Bool.true (.tmp 10)) Option.none)]) (.block 0 (.loop (.seq (.region [(.mk (Option.some 12) (.next
  Bool.false (.tmp 11)) Option.none), (.mk (Option.some 13) (.extract (.tmp 12) 0) Option.none)]) (.seq (.cond (.tmp 13) .skip (.exit 0)) (.block 1 (.seq (.region [(.mk
  (Option.some 14) (.entry (.tmp 11)) Option.none), (.mk (Option.some 15) (.extract (.tmp 14) 0) Option.none), (.mk (Option.some 4) (.mv (.tmp 15)) Option.none)]) (.region [(.mk
  (Option.some 16) (.mv (.tmp 3)) Option.none), (.mk (Option.some 17) (.mv (.tmp 4)) Option.none), (.mk (Option.some 18) (.buildSlice 1 1 [(.int .i64 0)] [(0, (1, (.tmp 17)))])
  Option.none), (.mk (Option.some 19) (.append Bool.false 1 8 (.tmp 16) (.tmp 18)) Option.none), (.mk (Option.some 3) (.mv (.tmp 19)) Option.none)])))))))) (.seq (.region [(.mk
  (Option.some 20) (.mv (.tmp 3)) Option.none), (.mk (Option.some 21) (.call 90 [(.tmp 20)]) Option.none)]) (.seq (.region [(.mk (Option.some 22) (.mv (.tmp 3)) Option.none), (.mk
  (Option.some 2) (.mv (.tmp 22)) Option.none)]) .ret)))))) 23 [(.tmp 2)])
def a58 : AFn :=
  (.mk (.seq (.region [(.mk (Option.some 4) (.mv (.const (.int .i64 0))) Option.none)]) (.seq (.seq (.region [(.mk (Option.some 5) (.mv (.tmp 0)) Option.none), (.mk (Option.some 6)
  (.eq .ptr Bool.false (.tmp 5) (.const (.pointer Option.none))) Option.none)]) (.cond (.tmp 6) (.seq (.region [(.mk (Option.some 4) (.mv (.const (.int .i64 0))) Option.none)])
  .ret) .skip)) (.seq (.region [(.mk (Option.some 7) (.mv (.tmp 0)) Option.none), (.mk (Option.some 8) (.nilCheck (.tmp 7)) Option.none), (.mk (Option.some 9) (.fieldAddr 1 (.tmp
  8)) Option.none), (.mk (Option.some 10) (.load 1 Bool.false (.tmp 9)) Option.none), (.mk (Option.some 11) (.mv (.tmp 1)) Option.none), (.mk (Option.some 12) (.lookup (.int .i64)
  (.agg [(.slice Option.none 0 0 0 0), (.int .i64 0)]) Bool.false (.tmp 10) (.tmp 11)) Option.none), (.mk (Option.some 13) (.field 0 1 Bool.false (.tmp 12)) Option.none), (.mk
  (Option.some 14) (.len (.tmp 13)) Option.none), (.mk (Option.some 4) (.mv (.tmp 14)) Option.none)]) .ret))) 15 [(.tmp 4)])
def a68 : AFn :=
  (.mk (.seq (.region [(.mk (Option.some 6) (.mv (.const .nilIface)) Option.none)]) (.seq (.region [(.mk (Option.some 10) (.mv (.tmp 0)) Option.none), (.mk (Option.some 11) (.mv
  (.tmp 1)) Option.none), (.mk (Option.some 12) (.call 96 [(.tmp 10), (.tmp 11)]) Option.none), (.mk (Option.some 9) (.mv (.tmp 12)) Option.none), (.mk (Option.some 13) (.extract
  (.tmp 9) 0) Option.none), (.mk (Option.some 14) (.extract (.tmp 9) 1) Option.none), (.mk (Option.some 7) (.mv (.tmp 13)) Option.none), (.mk (Option.some 8) (.mv (.tmp 14))
  Option.none)]) (.seq (.block 0 (.seq (.region [(.mk (Option.some 29) (.mv (.tmp 8)) Option.none), (.mk (Option.some 28) (.mv (.tmp 29)) Option.none)]) (.cond (.tmp 28) (.region
  [(.mk (Option.some 30) (.mv (.tmp 0)) Option.none), (.mk (Option.some 31) (.nilCheck (.tmp 30)) Option.none), (.mk (Option.some 32) (.fieldAddr 0 (.tmp 31)) Option.none), (.mk
  (Option.some 33) (.load 1 Bool.false (.tmp 32)) Option.none), (.mk (Option.some 34) (.mv (.tmp 7)) Option.none), (.mk (Option.some 35) (.mv (.tmp 2)) Option.none), (.mk
  (Option.some 36) (.atSlice 2 (.tmp 33) (.tmp 34)) Option.none), (.mk (Option.some 37) (.fieldAddr 1 (.tmp 36)) Option.none), (.mk Option.none (.store 1 (.tmp 37) (.tmp 35))
  Option.none)]) (.seq (.region [(.mk (Option.some 39) (.mv (.tmp 0)) Option.none), (.mk (Option.some 40) (.nilCheck (.tmp 39)) Option.none), (.mk (Option.some 41) (.fieldAddr 0
  (.tmp 40)) Option.none), (.mk (Option.some 42) (.load 1 Bool.false (.tmp 41)) Option.none), (.mk (Option.some 43) (.len (.tmp 42)) Option.none), (.mk (Option.some 44) (.bin .geq
  (.tmp 43) (.const (.int .i64 256))) Option.none), (.mk (Option.some 38) (.mv (.tmp 44)) Option.none)]) (.cond (.tmp 38) (.seq (.draws [((.mk (Option.some 45) (.mv (.tmp 0))
  Option.none), (0, 7)), ((.mk (Option.some 46) (.nilCheck (.tmp 45)) Option.none), (0, 7)), ((.mk (Option.some 47) (.fieldAddr 0 (.tmp 46)) Option.none), (0, 7)), ((.mk
  (Option.some 48) (.load 1 Bool.false (.tmp 47)) Option.none), (0, 7)), ((.mk (Option.some 49) (.len (.tmp 48)) Option.none), (0, 7)), ((.mk (Option.some 50) (.bin .add (.tmp 49)
  (.const (.int .i64 1))) Option.none), (0, 7)), ((.mk (Option.some 51) (.call 35 [(.const (.int .i64 5))]) Option.none), (0, 7)), ((.mk (Option.some 52) (.call 39 [(.const (.int
  .i64 256)), (.tmp 50), (.tmp 51)]) Option.none), (7, 9)), ((.mk (Option.some 6) (.mv (.tmp 52)) Option.none), (8, 9))]) .ret) (.region [(.mk (Option.some 15) (.mv (.tmp 0))
  Option.none), (.mk (Option.some 16) (.mv (.tmp 0)) Option.none), (.mk (Option.some 17) (.nilCheck (.tmp 16)) Option.none), (.mk (Option.some 18) (.fieldAddr 0 (.tmp 17))
  Option.none), (.mk (Option.some 19) (.load 1 Bool.false (.tmp 18)) Option.none), (.mk (Option.some 20) (.mv (.tmp 7)) Option.none), (.mk (Option.some 21) (.mv (.tmp 1))
  Option.none), (.mk (Option.some 22) (.mv (.tmp 2)) Option.none), (.mk (Option.some 23) (.build [(.str []), (.int .i64 0)] [(0, (1, (.tmp 21))), (1, (1, (.tmp 22)))])
  Option.none), (.mk (Option.some 24) (.buildSlice 1 2 [(.str []), (.int .i64 0)] [(0, (2, (.tmp 23)))]) Option.none), (.mk (Option.some 25) (.call 97 [(.tmp 19), (.tmp 20), (.tmp
  24)]) Option.none), (.mk (Option.some 26) (.nilCheck (.tmp 15)) Option.none), (.mk (Option.some 27) (.fieldAddr 0 (.tmp 26)) Option.none), (.mk Option.none (.store 1 (.tmp 27)
  (.tmp 25)) Option.none)])))))) (.seq (.region [(.mk (Option.some 6) (.mv (.const .nilIface)) Option.none)]) .ret)))) 53 [(.tmp 6)])
def a69 : AFn :=
  (.mk (.seq (.region [(.mk (Option.some 4) (.mv (.const (.bool Bool.false))) Option.none)]) (.seq (.region [(.mk (Option.some 5) (.mv (.tmp 0)) Option.none), (.mk (Option.some 6)
  (.mv (.tmp 1)) Option.none), (.mk (Option.some 7) (.call 98 [(.tmp 5), (.tmp 6)]) Option.none), (.mk (Option.some 8) (.bin .geq (.tmp 7) (.const (.int .i64 0))) Option.none),
  (.mk (Option.some 4) (.mv (.tmp 8)) Option.none)]) .ret)) 9 [(.tmp 4)])
def a70 : AFn :=
  (.mk (.seq (.region [(.mk (Option.some 1) (.box (.tmp 0)) Option.none), (.mk (Option.some 2) (.mv (.const (.bool Bool.false))) Option.none)]) (.seq (.region [(.mk (Option.some 3)
  (.load 3 Bool.true (.tmp 1)) Option.none), (.mk (Option.some 4) (.call 71 [(.tmp 3)]) Option.none), (.mk (Option.some 5) (.un .not (.tmp 4)) Option.none), (.mk (Option.some 2)
  (.mv (.tmp 5)) Option.none)]) .ret)) 6 [(.tmp 2)])
def a71 : AFn :=
  (.mk (.seq (.region [(.mk (Option.some 1) (.box (.tmp 0)) Option.none), (.mk (Option.some 2) (.mv (.const (.bool Bool.false))) Option.none)]) (.seq (.region [(.mk (Option.some 3)
  (.fieldAddr 0 (.tmp 1)) Option.none), (.mk (Option.some 4) (.load 1 Bool.false (.tmp 3)) Option.none), (.mk (Option.some 5) (.lenStr (.tmp 4)) Option.none), (.mk (Option.some 6)
  (.bin .leq (.tmp 5) (.const (.int .i64 16))) Option.none), (.mk (Option.some 7) (.mv (.tmp 6)) Option.none), (.mk (Option.some 8) (.fieldAddr 2 (.tmp 1)) (Option.some (7,
  Bool.true))), (.mk (Option.some 9) (.load 1 Bool.false (.tmp 8)) (Option.some (7, Bool.true))), (.mk (Option.some 10) (.mv (.tmp 9)) (Option.some (7, Bool.true))), (.mk
  (Option.some 11) (.fieldAddr 1 (.tmp 1)) (Option.some (10, Bool.false))), (.mk (Option.some 12) (.load 1 Bool.false (.tmp 11)) (Option.some (10, Bool.false))), (.mk (Option.some
  13) (.bin .eql (.tmp 12) (.const (.int .i64 0))) (Option.some (10, Bool.false))), (.mk (Option.some 14) (.pick (.tmp 10) (.const (.bool Bool.true)) (.tmp 13)) (Option.some (7,
  Bool.true))), (.mk (Option.some 15) (.pick (.tmp 7) (.tmp 14) (.const (.bool Bool.false))) Option.none), (.mk (Option.some 2) (.mv (.tmp 15)) Option.none)]) .ret)) 16 [(.tmp 2)])
def a72 : AFn :=
  (.mk (.seq (.region [(.mk (Option.some 2) (.mv (.const (.pointer Option.none))) Option.none)]) (.seq (.seq (.region [(.mk (Option.some 3) (.mv (.tmp 0)) Option.none), (.mk
  (Option.some 4) (.eq .ptr Bool.false (.tmp 3) (.const (.pointer Option.none))) Option.none)]) (.cond (.tmp 4) (.seq (.region [(.mk (Option.some 2) (.mv (.const (.pointer
  Option.none))) Option.none)]) .ret) .skip)) (.seq (.region [(.mk (Option.some 5) (.mv (.tmp 0)) Option.none), (.mk (Option.some 6) (.nilCheck (.tmp 5)) Option.none), (.mk
  (Option.some 7) (.fieldAddr 0 (.tmp 6)) Option.none), (.mk (Option.some 8) (.load 1 Bool.false (.tmp 7)) Option.none), (.mk (Option.some 9) (.call 99 [(.tmp 8)]) Option.none),
  (.mk (Option.some 10) (.build [(.slice Option.none 0 0 0 0)] [(0, (1, (.tmp 9)))]) Option.none), (.mk (Option.some 11) (.box (.tmp 10)) Option.none), (.mk (Option.some 2) (.mv
  (.tmp 11)) Option.none)]) .ret))) 12 [(.tmp 2)])
def a73 : AFn :=
  (.mk (.seq (.region [(.mk (Option.some 7) (.mv (.tmp 0)) Option.none), (.mk (Option.some 8) (.mv (.tmp 1)) Option.none), (.mk (Option.some 9) (.call 96 [(.tmp 7), (.tmp 8)])
  Option.none), (.mk (Option.some 6) (.mv (.tmp 9)) Option.none), (.mk (Option.some 10) (.extract (.tmp 6) 0) Option.none), (.mk (Option.some 11) (.extract (.tmp 6) 1)
  Option.none), (.mk (Option.some 4) (.mv (.tmp 10)) Option.none), (.mk (Option.some 5) (.mv (.tmp 11)) Option.none)]) (.seq (.region [(.mk (Option.some 12) (.mv (.tmp 5))
  Option.none)]) (.cond (.tmp 12) (.region [(.mk (Option.some 13) (.mv (.tmp 0)) Option.none), (.mk (Option.some 14) (.mv (.tmp 0)) Option.none), (.mk (Option.some 15) (.nilCheck
  (.tmp 14)) Option.none), (.mk (Option.some 16) (.fieldAddr 0 (.tmp 15)) Option.none), (.mk (Option.some 17) (.load 1 Bool.false (.tmp 16)) Option.none), (.mk (Option.some 18)
  (.mv (.tmp 4)) Option.none), (.mk (Option.some 19) (.mv (.tmp 4)) Option.none), (.mk (Option.some 20) (.bin .add (.tmp 19) (.const (.int .i64 1))) Option.none), (.mk (Option.some
  21) (.call 100 [(.tmp 17), (.tmp 18), (.tmp 20)]) Option.none), (.mk (Option.some 22) (.nilCheck (.tmp 13)) Option.none), (.mk (Option.some 23) (.fieldAddr 0 (.tmp 22))
  Option.none), (.mk Option.none (.store 1 (.tmp 23) (.tmp 21)) Option.none)]) .skip))) 24 [])
def a78 : AFn :=
  (.mk (.seq (.region [(.mk (Option.some 4) (.mv (.const (.int .i64 0))) Option.none), (.mk (Option.some 5) (.mv (.const .nilIface)) Option.none)]) (.seq (.seq (.region [(.mk
  (Option.some 7) (.mv (.tmp 0)) Option.none), (.mk (Option.some 8) (.nilCheck (.tmp 7)) Option.none), (.mk (Option.some 9) (.fieldAddr 2 (.tmp 8)) Option.none), (.mk (Option.some
  10) (.load 1 Bool.false (.tmp 9)) Option.none), (.mk (Option.some 11) (.bin .lss (.tmp 10) (.const (.int .i64 0))) Option.none)]) (.cond (.tmp 11) (.seq (.region [(.mk
  (Option.some 4) (.mv (.const (.int .i64 0))) Option.none), (.mk (Option.some 5) (.mv (.const .nilIface)) Option.none)]) .ret) .skip)) (.seq (.draws [((.mk (Option.some 12) (.mv
  (.tmp 0)) Option.none), (0, 8)), ((.mk (Option.some 13) (.nilCheck (.tmp 12)) Option.none), (0, 8)), ((.mk (Option.some 14) (.fieldAddr 0 (.tmp 13)) Option.none), (0, 8)), ((.mk
  (Option.some 15) (.load 1 Bool.false (.tmp 14)) Option.none), (0, 8)), ((.mk (Option.some 16) (.mv (.tmp 0)) Option.none), (0, 8)), ((.mk (Option.some 17) (.nilCheck (.tmp 16))
  Option.none), (0, 8)), ((.mk (Option.some 18) (.fieldAddr 2 (.tmp 17)) Option.none), (0, 8)), ((.mk (Option.some 19) (.load 1 Bool.false (.tmp 18)) Option.none), (0, 8)), ((.mk
  (Option.some 20) (.call 58 [(.tmp 15), (.tmp 19)]) Option.none), (0, 10)), ((.mk (Option.some 6) (.mv (.tmp 20)) Option.none), (9, 10))]) (.seq (.seq (.region [(.mk (Option.some
  21) (.mv (.tmp 6)) Option.none), (.mk (Option.some 22) (.bin .eql (.tmp 21) (.const (.int .i64 0))) Option.none), (.mk (Option.some 23) (.mv (.tmp 22)) Option.none), (.mk
  (Option.some 24) (.mv (.tmp 1)) (Option.some (23, Bool.false))), (.mk (Option.some 25) (.mv (.tmp 0)) (Option.some (23, Bool.false))), (.mk (Option.some 26) (.nilCheck (.tmp 25))
  (Option.some (23, Bool.false))), (.mk (Option.some 27) (.fieldAddr 1 (.tmp 26)) (Option.some (23, Bool.false))), (.mk (Option.some 28) (.load 1 Bool.false (.tmp 27)) (Option.some
  (23, Bool.false))), (.mk (Option.some 29) (.mv (.tmp 6)) (Option.some (23, Bool.false))), (.mk (Option.some 30) (.bin .sub (.tmp 28) (.tmp 29)) (Option.some (23, Bool.false))),
  (.mk (Option.some 31) (.bin .leq (.tmp 24) (.tmp 30)) (Option.some (23, Bool.false))), (.mk (Option.some 32) (.pick (.tmp 23) (.const (.bool Bool.true)) (.tmp 31)) Option.none)])
  (.cond (.tmp 32) (.seq (.region [(.mk (Option.some 33) (.mv (.tmp 0)) Option.none), (.mk (Option.some 34) (.nilCheck (.tmp 33)) Option.none), (.mk (Option.some 35) (.fieldAddr 2
  (.tmp 34)) Option.none), (.mk (Option.some 36) (.load 1 Bool.false (.tmp 35)) Option.none), (.mk (Option.some 4) (.mv (.tmp 36)) Option.none), (.mk (Option.some 5) (.mv (.const
  .nilIface)) Option.none)]) .ret) .skip)) (.seq (.draws [((.mk (Option.some 37) (.mv (.tmp 0)) Option.none), (0, 21)), ((.mk (Option.some 38) (.nilCheck (.tmp 37)) Option.none),
  (0, 21)), ((.mk (Option.some 39) (.fieldAddr 2 (.tmp 38)) Option.none), (0, 21)), ((.mk (Option.some 40) (.load 1 Bool.false (.tmp 39)) Option.none), (0, 21)), ((.mk (Option.some
  41) (.bin .add (.tmp 40) (.const (.int .i64 1))) Option.none), (0, 21)), ((.mk (Option.some 42) (.mv (.tmp 0)) Option.none), (0, 18)), ((.mk (Option.some 43) (.nilCheck (.tmp
  42)) Option.none), (0, 18)), ((.mk (Option.some 44) (.fieldAddr 2 (.tmp 43)) Option.none), (0, 18)), ((.mk (Option.some 45) (.load 1 Bool.false (.tmp 44)) Option.none), (0, 18)),
  ((.mk (Option.some 46) (.mv (.tmp 0)) Option.none), (0, 17)), ((.mk (Option.some 47) (.nilCheck (.tmp 46)) Option.none), (0, 17)), ((.mk (Option.some 48) (.fieldAddr 0 (.tmp 47))
  Option.none), (0, 17)), ((.mk (Option.some 49) (.load 1 Bool.false (.tmp 48)) Option.none), (0, 17)), ((.mk (Option.some 50) (.mv (.tmp 0)) Option.none), (0, 17)), ((.mk
  (Option.some 51) (.nilCheck (.tmp 50)) Option.none), (0, 17)), ((.mk (Option.some 52) (.fieldAddr 2 (.tmp 51)) Option.none), (0, 17)), ((.mk (Option.some 53) (.load 1 Bool.false
  (.tmp 52)) Option.none), (0, 17)), ((.mk (Option.some 54) (.call 53 [(.tmp 49), (.tmp 53)]) Option.none), (0, 18)), ((.mk (Option.some 55) (.call 50 [(.tmp 45), (.tmp 54)])
  Option.none), (18, 21)), ((.mk (Option.some 4) (.mv (.tmp 41)) Option.none), (19, 21)), ((.mk (Option.some 5) (.mv (.tmp 55)) Option.none), (19, 21))]) .ret))))) 56 [(.tmp 4),
  (.tmp 5)])
def a79 : AFn :=
  (.mk (.seq (.region [(.mk (Option.some 2) (.mv (.const (.slice Option.none 0 0))) Option.none)]) (.seq (.region [(.mk (Option.some 3) (.mv (.tmp 0)) Option.none), (.mk (Option.some
  4) (.lenStr (.tmp 3)) Option.none), (.mk (Option.some 5) (.conv .u64 (.tmp 4)) Option.none), (.mk (Option.some 6) (.call 46 [(.tmp 5)]) Option.none), (.mk (Option.some 7) (.mv
  (.tmp 0)) Option.none), (.mk (Option.some 8) (.append Bool.true 1 1 (.tmp 6) (.tmp 7)) Option.none), (.mk (Option.some 2) (.mv (.tmp 8)) Option.none)]) .ret)) 9 [(.tmp 2)])
def a80 : AFn :=
  (.mk (.seq (.region [(.mk (Option.some 2) (.mv (.const (.slice Option.none 0 0))) Option.none)]) (.seq (.seq (.region [(.mk (Option.some 3) (.mv (.tmp 0)) Option.none)]) (.cond
  (.tmp 3) (.seq (.region [(.mk (Option.some 4) (.buildSlice 1 1 [(.int .u8 0)] [(0, (1, (.const (.int .u8 1))))]) Option.none), (.mk (Option.some 2) (.mv (.tmp 4)) Option.none)])
  .ret) .skip)) (.seq (.region [(.mk (Option.some 5) (.buildSlice 1 1 [(.int .u8 0)] [(0, (1, (.const (.int .u8 0))))]) Option.none), (.mk (Option.some 2) (.mv (.tmp 5))
  Option.none)]) .ret))) 6 [(.tmp 2)])
def a81 : AFn :=
  (.mk (.seq (.region [(.mk (Option.some 2) (.mv (.const (.slice Option.none 0 0))) Option.none)]) (.seq (.region [(.mk (Option.some 3) (.mv (.tmp 0)) Option.none), (.mk (Option.some
  4) (.conv .u64 (.tmp 3)) Option.none), (.mk (Option.some 5) (.bin .shl (.tmp 4) (.const (.int .u64 1))) Option.none), (.mk (Option.some 6) (.mv (.tmp 0)) Option.none), (.mk
  (Option.some 7) (.bin .shr (.tmp 6) (.const (.int .u64 63))) Option.none), (.mk (Option.some 8) (.conv .u64 (.tmp 7)) Option.none), (.mk (Option.some 9) (.bin .xor (.tmp 5) (.tmp
  8)) Option.none), (.mk (Option.some 10) (.call 46 [(.tmp 9)]) Option.none), (.mk (Option.some 2) (.mv (.tmp 10)) Option.none)]) .ret)) 11 [(.tmp 2)])
def a85 : AFn :=
  (.mk (.seq (.region [(.mk (Option.some 6) (.mv (.const .nilIface)) Option.none)]) (.seq (.seq (.region [(.mk (Option.some 10) (.mv (.tmp 0)) Option.none), (.mk (Option.some 11)
  (.eq .ptr Bool.false (.tmp 10) (.const (.pointer Option.none))) Option.none)]) (.cond (.tmp 11) (.seq (.region [(.mk (Option.some 12) (.call 35 [(.const (.int .i64 1))])
  Option.none), (.mk (Option.some 6) (.mv (.tmp 12)) Option.none)]) .ret) .skip)) (.seq (.seq (.region [(.mk (Option.some 13) (.mv (.tmp 1)) Option.none), (.mk (Option.some 14)
  (.call 107 [(.tmp 13)]) Option.none), (.mk (Option.some 7) (.mv (.tmp 14)) Option.none)]) (.seq (.region [(.mk (Option.some 15) (.mv (.tmp 7)) Option.none), (.mk (Option.some 16)
  (.eq (.iface Bool.true) Bool.true (.tmp 15) (.const .nilIface)) Option.none)]) (.cond (.tmp 16) (.seq (.region [(.mk (Option.some 17) (.mv (.tmp 7)) Option.none), (.mk
  (Option.some 6) (.mv (.tmp 17)) Option.none)]) .ret) .skip))) (.seq (.seq (.region [(.mk (Option.some 18) (.mv (.tmp 0)) Option.none), (.mk (Option.some 19) (.nilCheck (.tmp 18))
  Option.none), (.mk (Option.some 20) (.fieldAddr 3 (.tmp 19)) Option.none), (.mk (Option.some 21) (.load 1 Bool.false (.tmp 20)) Option.none)]) (.cond (.tmp 21) (.seq (.region
  [(.mk (Option.some 22) (.call 35 [(.const (.int .i64 8))]) Option.none), (.mk (Option.some 6) (.mv (.tmp 22)) Option.none)]) .ret) .skip)) (.seq (.seq (.region [(.mk (Option.some
  24) (.mv (.tmp 0)) Option.none), (.mk (Option.some 25) (.nilCheck (.tmp 24)) Option.none), (.mk (Option.some 26) (.fieldAddr 1 (.tmp 25)) Option.none), (.mk (Option.some 27)
  (.load 1 Bool.false (.tmp 26)) Option.none), (.mk (Option.some 28) (.mv (.tmp 1)) Option.none), (.mk (Option.some 29) (.lookup (.int .i64) (.agg [(.slice Option.none 0 0 0 0),
  (.int .i64 0)]) Bool.true (.tmp 27) (.tmp 28)) Option.none), (.mk (Option.some 23) (.mv (.tmp 29)) Option.none), (.mk (Option.some 30) (.extract (.tmp 23) 0) Option.none), (.mk
  (Option.some 31) (.extract (.tmp 23) 1) Option.none), (.mk (Option.some 8) (.alloc [(.slice Option.none 0 0 0 0), (.int .i64 0)]) Option.none), (.mk Option.none (.store 2 (.tmp
  8) (.tmp 30)) Option.none), (.mk (Option.some 9) (.mv (.tmp 31)) Option.none)]) (.seq (.region [(.mk (Option.some 32) (.mv (.tmp 9)) Option.none), (.mk (Option.some 33) (.un .not
  (.tmp 32)) Option.none), (.mk (Option.some 34) (.mv (.tmp 33)) Option.none), (.mk (Option.some 35) (.mv (.tmp 2)) (Option.some (34, Bool.true))), (.mk (Option.some 36) (.un .not
  (.tmp 35)) (Option.some (34, Bool.true))), (.mk (Option.some 37) (.pick (.tmp 34) (.tmp 36) (.const (.bool Bool.false))) Option.none)]) (.cond (.tmp 37) (.seq (.region [(.mk
  (Option.some 38) (.mv (.tmp 1)) Option.none), (.mk (Option.some 39) (.call 35 [(.const (.int .i64 3))]) Option.none), (.mk (Option.some 40) (.call 18 [(.tmp 38), (.tmp 39)])
  Option.none), (.mk (Option.some 6) (.mv (.tmp 40)) Option.none)]) .ret) .skip))) (.seq (.region [(.mk (Option.some 6) (.mv (.const .nilIface)) Option.none)]) .ret)))))) 41 [(.tmp
  6)])
def a86 : AFn :=
  (.mk (.seq (.region [(.mk (Option.some 6) (.mv (.const .nilIface)) Option.none)]) (.seq (.region [(.mk (Option.some 12) (.mv (.tmp 0)) Option.none), (.mk (Option.some 13) (.call
  108 [(.tmp 12)]) Option.none), (.mk (Option.some 7) (.mv (.tmp 13)) Option.none)]) (.seq (.seq (.region [(.mk (Option.some 14) (.mv (.tmp 2)) Option.none), (.mk (Option.some 15)
  (.len (.tmp 14)) Option.none), (.mk (Option.some 16) (.mv (.const (.int .i64 0))) Option.none)]) (.block 0 (.loop (.seq (.region [(.mk (Option.some 17) (.bin .lss (.tmp 16) (.tmp
  15)) Option.none)]) (.seq (.cond (.tmp 17) .skip (.exit 0)) (.seq (.block 1 (.seq (.region [(.mk (Option.some 18) (.atSlice 1 (.tmp 14) (.tmp 16)) Option.none), (.mk (Option.some
  19) (.load 1 Bool.false (.tmp 18)) Option.none), (.mk (Option.some 9) (.mv (.tmp 19)) Option.none)]) (.seq (.seq (.region [(.mk (Option.some 20) (.mv (.tmp 9)) Option.none), (.mk
  (Option.some 21) (.len (.tmp 20)) Option.none), (.mk (Option.some 22) (.mv (.tmp 7)) Option.none), (.mk (Option.some 23) (.bin .gtr (.tmp 21) (.tmp 22)) Option.none)]) (.cond
  (.tmp 23) (.seq (.draws [((.mk (Option.some 24) (.mv (.tmp 0)) Option.none), (0, 7)), ((.mk (Option.some 25) (.nilCheck (.tmp 24)) Option.none), (0, 7)), ((.mk (Option.some 26)
  (.fieldAddr 0 (.tmp 25)) Option.none), (0, 7)), ((.mk (Option.some 27) (.load 1 Bool.false (.tmp 26)) Option.none), (0, 7)), ((.mk (Option.some 28) (.mv (.tmp 9)) Option.none),
  (0, 7)), ((.mk (Option.some 29) (.len (.tmp 28)) Option.none), (0, 7)), ((.mk (Option.some 30) (.call 35 [(.const (.int .i64 5))]) Option.none), (0, 7)), ((.mk (Option.some 31)
  (.call 39 [(.tmp 27), (.tmp 29), (.tmp 30)]) Option.none), (7, 9)), ((.mk (Option.some 6) (.mv (.tmp 31)) Option.none), (8, 9))]) .ret) .skip)) (.region [(.mk (Option.some 32)
  (.mv (.tmp 7)) Option.none), (.mk (Option.some 33) (.mv (.tmp 9)) Option.none), (.mk (Option.some 34) (.len (.tmp 33)) Option.none), (.mk (Option.some 35) (.bin .sub (.tmp 32)
  (.tmp 34)) Option.none), (.mk (Option.some 7) (.mv (.tmp 35)) Option.none)])))) (.region [(.mk (Option.some 36) (.bin .add (.tmp 16) (.const (.int .i64 1))) Option.none), (.mk
  (Option.some 16) (.mv (.tmp 36)) Option.none)]))))))) (.seq (.seq (.region [(.mk (Option.some 38) (.mv (.tmp 0)) Option.none), (.mk (Option.some 39) (.nilCheck (.tmp 38))
  Option.none), (.mk (Option.some 40) (.fieldAddr 1 (.tmp 39)) Option.none), (.mk (Option.some 41) (.load 1 Bool.false (.tmp 40)) Option.none), (.mk (Option.some 42) (.mv (.tmp 1))
  Option.none), (.mk (Option.some 43) (.lookup (.int .i64) (.agg [(.slice Option.none 0 0 0 0), (.int .i64 0)]) Bool.true (.tmp 41) (.tmp 42)) Option.none), (.mk (Option.some 37)
  (.mv (.tmp 43)) Option.none), (.mk (Option.some 44) (.extract (.tmp 37) 0) Option.none), (.mk (Option.some 45) (.extract (.tmp 37) 1) Option.none), (.mk (Option.some 10) (.alloc
  [(.slice Option.none 0 0 0 0), (.int .i64 0)]) Option.none), (.mk Option.none (.store 2 (.tmp 10) (.tmp 44)) Option.none), (.mk (Option.some 11) (.mv (.tmp 45)) Option.none)])
  (.seq (.region [(.mk (Option.some 46) (.mv (.tmp 11)) Option.none), (.mk (Option.some 47) (.un .not (.tmp 46)) Option.none), (.mk (Option.some 48) (.mv (.tmp 47)) Option.none),
  (.mk (Option.some 49) (.mv (.tmp 0)) (Option.some (48, Bool.true))), (.mk (Option.some 50) (.nilCheck (.tmp 49)) (Option.some (48, Bool.true))), (.mk (Option.some 51) (.fieldAddr
  1 (.tmp 50)) (Option.some (48, Bool.true))), (.mk (Option.some 52) (.load 1 Bool.false (.tmp 51)) (Option.some (48, Bool.true))), (.mk (Option.some 53) (.lenMap (.tmp 52))
  (Option.some (48, Bool.true))), (.mk (Option.some 54) (.bin .geq (.tmp 53) (.const (.int .i64 64))) (Option.some (48, Bool.true))), (.mk (Option.some 55) (.pick (.tmp 48) (.tmp
  54) (.const (.bool Bool.false))) Option.none)]) (.cond (.tmp 55) (.seq (.region [(.mk (Option.some 56) (.mv (.tmp 1)) Option.none), (.mk (Option.some 57) (.call 35 [(.const (.int
  .i64 5))]) Option.none), (.mk (Option.some 58) (.call 39 [(.const (.int .i64 64)), (.tmp 56), (.tmp 57)]) Option.none), (.mk (Option.some 6) (.mv (.tmp 58)) Option.none)]) .ret)
  .skip))) (.seq (.region [(.mk (Option.some 6) (.mv (.const .nilIface)) Option.none)]) .ret))))) 59 [(.tmp 6)])
def a87 : AFn :=
  (.mk (.seq (.region [(.mk (Option.some 5) (.box (.tmp 2)) Option.none), (.mk (Option.some 6) (.mv (.const (.int .i64 0))) Option.none)]) (.seq (.region [(.mk (Option.some 8) (.mv
  (.tmp 0)) Option.none), (.mk (Option.some 9) (.call 89 [(.tmp 8)]) Option.none), (.mk (Option.some 7) (.mv (.tmp 9)) Option.none)]) (.seq (.seq (.region [(.mk (Option.some 10)
  (.mv (.tmp 7)) Option.none), (.mk (Option.some 11) (.eq (.iface Bool.true) Bool.false (.tmp 10) (.const .nilIface)) Option.none)]) (.cond (.tmp 11) (.draws [((.mk (Option.some
  12) (.mv (.tmp 0)) Option.none), (0, 6)), ((.mk (Option.some 13) (.nilCheck (.tmp 12)) Option.none), (0, 6)), ((.mk (Option.some 14) (.fieldAddr 1 (.tmp 13)) Option.none), (0,
  6)), ((.mk (Option.some 15) (.load 1 Bool.false (.tmp 14)) Option.none), (0, 6)), ((.mk (Option.some 16) (.mv (.tmp 1)) Option.none), (0, 6)), ((.mk (Option.some 17) (.load 2
  Bool.true (.tmp 5)) Option.none), (0, 6)), ((.mk Option.none (.mapPut (.int .i64) (.tmp 15) (.tmp 16) (.tmp 17)) Option.none), (0, 7))]) .skip)) (.seq (.region [(.mk (Option.some
  18) (.mv (.tmp 7)) Option.none), (.mk (Option.some 19) (.call 21 [(.tmp 18)]) Option.none), (.mk (Option.some 6) (.mv (.tmp 19)) Option.none)]) .ret)))) 20 [(.tmp 6)])
def a88 : AFn :=
  (.mk (.seq (.region [(.mk (Option.some 2) (.mv (.const (.int .u32 0))) Option.none)]) (.seq (.region [(.mk (Option.some 3) (.mv (.const (.int .u32 4294967295))) Option.none)])
  (.seq (.seq (.region [(.mk (Option.some 8) (.mv (.tmp 0)) Option.none), (.mk (Option.some 9) (.len (.tmp 8)) Option.none), (.mk (Option.some 10) (.mv (.const (.int .i64 0)))
  Option.none)]) (.block 0 (.loop (.seq (.region [(.mk (Option.some 11) (.bin .lss (.tmp 10) (.tmp 9)) Option.none)]) (.seq (.cond (.tmp 11) .skip (.exit 0)) (.seq (.block 1 (.seq
  (.region [(.mk (Option.some 12) (.atSlice 1 (.tmp 8) (.tmp 10)) Option.none), (.mk (Option.some 13) (.load 1 Bool.false (.tmp 12)) Option.none), (.mk (Option.some 5) (.mv (.tmp
  13)) Option.none)]) (.seq (.region [(.mk (Option.some 14) (.mv (.tmp 5)) Option.none), (.mk (Option.some 15) (.len (.tmp 14)) Option.none), (.mk (Option.some 16) (.mv (.const
  (.int .i64 0))) Option.none)]) (.block 2 (.loop (.seq (.region [(.mk (Option.some 17) (.bin .lss (.tmp 16) (.tmp 15)) Option.none)]) (.seq (.cond (.tmp 17) .skip (.exit 2)) (.seq
  (.block 3 (.seq (.region [(.mk (Option.some 18) (.atSlice 1 (.tmp 14) (.tmp 16)) Option.none), (.mk (Option.some 19) (.load 1 Bool.false (.tmp 18)) Option.none), (.mk
  (Option.some 7) (.mv (.tmp 19)) Option.none)]) (.seq (.region [(.mk (Option.some 20) (.mv (.tmp 3)) Option.none), (.mk (Option.some 21) (.mv (.tmp 7)) Option.none), (.mk
  (Option.some 22) (.conv .u32 (.tmp 21)) Option.none), (.mk (Option.some 23) (.bin .xor (.tmp 20) (.tmp 22)) Option.none), (.mk (Option.some 3) (.mv (.tmp 23)) Option.none)])
  (.seq (.region [(.mk (Option.some 24) (.mv (.const (.int .i64 0))) Option.none)]) (.block 4 (.loop (.seq (.region [(.mk (Option.some 25) (.bin .lss (.tmp 24) (.const (.int .i64
  8))) Option.none)]) (.seq (.cond (.tmp 25) .skip (.exit 4)) (.seq (.block 5 (.seq (.region [(.mk (Option.some 26) (.mv (.tmp 3)) Option.none), (.mk (Option.some 27) (.bin .and
  (.tmp 26) (.const (.int .u32 1))) Option.none), (.mk (Option.some 28) (.bin .eql (.tmp 27) (.const (.int .u32 1))) Option.none)]) (.cond (.tmp 28) (.region [(.mk (Option.some 29)
  (.mv (.tmp 3)) Option.none), (.mk (Option.some 30) (.bin .shr (.tmp 29) (.const (.int .u64 1))) Option.none), (.mk (Option.some 31) (.bin .xor (.tmp 30) (.const (.int .u32
  2197175160))) Option.none), (.mk (Option.some 3) (.mv (.tmp 31)) Option.none)]) (.region [(.mk (Option.some 32) (.mv (.tmp 3)) Option.none), (.mk (Option.some 33) (.bin .shr
  (.tmp 32) (.const (.int .u64 1))) Option.none), (.mk (Option.some 3) (.mv (.tmp 33)) Option.none)])))) (.region [(.mk (Option.some 34) (.bin .add (.tmp 24) (.const (.int .i64
  1))) Option.none), (.mk (Option.some 24) (.mv (.tmp 34)) Option.none)])))))))))) (.region [(.mk (Option.some 35) (.bin .add (.tmp 16) (.const (.int .i64 1))) Option.none), (.mk
  (Option.some 16) (.mv (.tmp 35)) Option.none)]))))))))) (.region [(.mk (Option.some 36) (.bin .add (.tmp 10) (.const (.int .i64 1))) Option.none), (.mk (Option.some 10) (.mv
  (.tmp 36)) Option.none)]))))))) (.seq (.region [(.mk (Option.some 37) (.mv (.tmp 3)) Option.none), (.mk (Option.some 38) (.un .xor (.tmp 37)) Option.none), (.mk (Option.some 2)
  (.mv (.tmp 38)) Option.none)]) .ret)))) 39 [(.tmp 2)])
def a89 : AFn :=
  (.mk (.seq (.region [(.mk (Option.some 2) (.mv (.const .nilIface)) Option.none)]) (.seq (.seq (.region [(.mk (Option.some 3) (.mv (.tmp 0)) Option.none), (.mk (Option.some 4)
  (.nilCheck (.tmp 3)) Option.none), (.mk (Option.some 5) (.fieldAddr 2 (.tmp 4)) Option.none), (.mk (Option.some 6) (.load 1 Bool.false (.tmp 5)) Option.none), (.mk (Option.some
  7) (.bin .eql (.tmp 6) (.const (.int .i64 0))) Option.none)]) (.cond (.tmp 7) (.seq (.region [(.mk (Option.some 8) (.mv (.tmp 0)) Option.none), (.mk (Option.some 9) (.nilCheck
  (.tmp 8)) Option.none), (.mk (Option.some 10) (.fieldAddr 3 (.tmp 9)) Option.none), (.mk Option.none (.store 1 (.tmp 10) (.const (.bool Bool.true))) Option.none)]) (.seq (.region
  [(.mk (Option.some 11) (.call 35 [(.const (.int .i64 8))]) Option.none), (.mk (Option.some 2) (.mv (.tmp 11)) Option.none)]) .ret)) .skip)) (.seq (.seq (.region [(.mk
  (Option.some 12) (.mv (.tmp 0)) Option.none), (.mk (Option.some 13) (.nilCheck (.tmp 12)) Option.none), (.mk (Option.some 14) (.fieldAddr 2 (.tmp 13)) Option.none), (.mk
  (Option.some 15) (.load 1 Bool.false (.tmp 14)) Option.none), (.mk (Option.some 16) (.bin .gtr (.tmp 15) (.const (.int .i64 0))) Option.none)]) (.cond (.tmp 16) (.region [(.mk
  (Option.some 17) (.mv (.tmp 0)) Option.none), (.mk (Option.some 18) (.nilCheck (.tmp 17)) Option.none), (.mk (Option.some 19) (.fieldAddr 2 (.tmp 18)) Option.none), (.mk
  (Option.some 20) (.load 1 Bool.false (.tmp 19)) Option.none), (.mk (Option.some 21) (.bin .sub (.tmp 20) (.const (.int .i64 1))) Option.none), (.mk (Option.some 22) (.nilCheck
  (.tmp 17)) Option.none), (.mk (Option.some 23) (.fieldAddr 2 (.tmp 22)) Option.none), (.mk Option.none (.store 1 (.tmp 23) (.tmp 21)) Option.none)]) .skip)) (.seq (.region [(.mk
  (Option.some 2) (.mv (.const .nilIface)) Option.none)]) .ret)))) 24 [(.tmp 2)])
def a90 : AFn :=
  (.mk (.seq (.region [(.mk (Option.some 3) (.mv (.tmp 0)) Option.none), (.mk (Option.some 4) (.len (.tmp 3)) Option.none), (.mk (Option.some 2) (.mv (.tmp 4)) Option.none)])
  (.region [(.mk (Option.some 5) (.mv (.tmp 0)) Option.none), (.mk (Option.some 6) (.mv (.tmp 2)) Option.none), (.mk (Option.some 7) (.mv (.tmp 2)) Option.none), (.mk (Option.some
  8) (.conv .u64 (.tmp 7)) Option.none), (.mk (Option.some 9) (.call 106 [(.tmp 8)]) Option.none), (.mk (Option.some 10) (.call 109 [(.tmp 5), (.const (.int .i64 0)), (.tmp 6),
  (.tmp 9)]) Option.none)])) 11 [])
def a96 : AFn :=
  (.mk (.seq (.region [(.mk (Option.some 4) (.mv (.const (.int .i64 0))) Option.none), (.mk (Option.some 5) (.mv (.const (.bool Bool.false))) Option.none)]) (.seq (.region [(.mk
  (Option.some 6) (.mv (.tmp 0)) Option.none), (.mk (Option.some 7) (.nilCheck (.tmp 6)) Option.none), (.mk (Option.some 8) (.fieldAddr 0 (.tmp 7)) Option.none), (.mk (Option.some
  9) (.load 1 Bool.false (.tmp 8)) Option.none), (.mk (Option.some 10) (.mv (.tmp 1)) Option.none), (.mk (Option.some 11) (.call 111 [(.tmp 9), (.tmp 10), (.func 112)])
  Option.none), (.mk (Option.some 12) (.extract (.tmp 11) 0) Option.none), (.mk (Option.some 13) (.extract (.tmp 11) 1) Option.none), (.mk (Option.some 4) (.mv (.tmp 12))
  Option.none), (.mk (Option.some 5) (.mv (.tmp 13)) Option.none)]) .ret)) 14 [(.tmp 4), (.tmp 5)])
def a97 : AFn :=
  (.mk (.seq (.region [(.mk (Option.some 6) (.mv (.const (.slice Option.none 0 0))) Option.none)]) (.seq (.region [(.mk (Option.some 10) (.mv (.tmp 0)) Option.none), (.mk
  (Option.some 11) (.mv (.tmp 1)) Option.none), (.mk (Option.some 12) (.cutSlice 2 (.tmp 10) (Option.some (.tmp 11)) Option.none Option.none) Option.none)]) (.seq (.region [(.mk
  (Option.some 13) (.mv (.tmp 2)) Option.none), (.mk (Option.some 14) (.len (.tmp 13)) Option.none), (.mk (Option.some 7) (.mv (.tmp 14)) Option.none)]) (.seq (.seq (.region [(.mk
  (Option.some 15) (.mv (.tmp 7)) Option.none), (.mk (Option.some 16) (.bin .eql (.tmp 15) (.const (.int .i64 0))) Option.none)]) (.cond (.tmp 16) (.seq (.region [(.mk (Option.some
  17) (.mv (.tmp 0)) Option.none), (.mk (Option.some 6) (.mv (.tmp 17)) Option.none)]) .ret) .skip)) (.seq (.region [(.mk (Option.some 18) (.mv (.tmp 0)) Option.none), (.mk
  (Option.some 19) (.len (.tmp 18)) Option.none), (.mk (Option.some 8) (.mv (.tmp 19)) Option.none)]) (.seq (.seq (.region [(.mk (Option.some 20) (.mv (.tmp 1)) Option.none), (.mk
  (Option.some 21) (.mv (.tmp 8)) Option.none), (.mk (Option.some 22) (.bin .eql (.tmp 20) (.tmp 21)) Option.none)]) (.cond (.tmp 22) (.seq (.region [(.mk (Option.some 23) (.mv
  (.tmp 0)) Option.none), (.mk (Option.some 24) (.mv (.tmp 2)) Option.none), (.mk (Option.some 25) (.append Bool.false 2 24 (.tmp 23) (.tmp 24)) Option.none), (.mk (Option.some 6)
  (.mv (.tmp 25)) Option.none)]) .ret) .skip)) (.seq (.seq (.region [(.mk (Option.some 26) (.mv (.tmp 8)) Option.none), (.mk (Option.some 27) (.mv (.tmp 7)) Option.none), (.mk
  (Option.some 28) (.bin .add (.tmp 26) (.tmp 27)) Option.none), (.mk (Option.some 29) (.mv (.tmp 0)) Option.none), (.mk (Option.some 30) (.cap (.tmp 29)) Option.none), (.mk
  (Option.some 31) (.bin .gtr (.tmp 28) (.tmp 30)) Option.none)]) (.cond (.tmp 31) (.seq (.region [(.mk (Option.some 32) (.mv (.tmp 0)) Option.none), (.mk (Option.some 33) (.mv
  (.tmp 1)) Option.none), (.mk (Option.some 34) (.cutSlice 2 (.tmp 32) Option.none (Option.some (.tmp 33)) Option.none) Option.none), (.mk (Option.some 35) (.mv (.tmp 8))
  Option.none), (.mk (Option.some 36) (.mv (.tmp 7)) Option.none), (.mk (Option.some 37) (.bin .add (.tmp 35) (.tmp 36)) Option.none), (.mk (Option.some 38) (.mv (.tmp 1))
  Option.none), (.mk (Option.some 39) (.bin .sub (.tmp 37) (.tmp 38)) Option.none), (.mk (Option.some 40) (.appendZ 2 24 [(.str []), (.int .i64 0)] (.tmp 34) (.tmp 39))
  Option.none), (.mk (Option.some 9) (.mv (.tmp 40)) Option.none)]) (.seq (.region [(.mk (Option.some 41) (.mv (.tmp 9)) Option.none), (.mk (Option.some 42) (.mv (.tmp 1))
  Option.none), (.mk (Option.some 43) (.cutSlice 2 (.tmp 41) (Option.some (.tmp 42)) Option.none Option.none) Option.none), (.mk (Option.some 44) (.mv (.tmp 2)) Option.none), (.mk
  (Option.some 45) (.extract (.const (.bool Bool.false)) 0) Option.none)]) (.seq (.draws [((.mk (Option.some 46) (.mv (.tmp 9)) Option.none), (0, 9)), ((.mk (Option.some 47) (.mv
  (.tmp 1)) Option.none), (0, 9)), ((.mk (Option.some 48) (.mv (.tmp 7)) Option.none), (0, 9)), ((.mk (Option.some 49) (.bin .add (.tmp 47) (.tmp 48)) Option.none), (0, 9)), ((.mk
  (Option.some 50) (.cutSlice 2 (.tmp 46) (Option.some (.tmp 49)) Option.none Option.none) Option.none), (0, 9)), ((.mk (Option.some 51) (.mv (.tmp 0)) Option.none), (0, 9)), ((.mk
  (Option.some 52) (.mv (.tmp 1)) Option.none), (0, 9)), ((.mk (Option.some 53) (.cutSlice 2 (.tmp 51) (Option.some (.tmp 52)) Option.none Option.none) Option.none), (0, 9)), ((.mk
  (Option.some 54) (.extract (.const (.bool Bool.false)) 0) Option.none), (0, 9))]) (.seq (.region [(.mk (Option.some 55) (.mv (.tmp 9)) Option.none), (.mk (Option.some 6) (.mv
  (.tmp 55)) Option.none)]) .ret)))) .skip)) (.seq (.region [(.mk (Option.some 56) (.mv (.tmp 0)) Option.none), (.mk (Option.some 57) (.mv (.tmp 8)) Option.none), (.mk (Option.some
  58) (.mv (.tmp 7)) Option.none), (.mk (Option.some 59) (.bin .add (.tmp 57) (.tmp 58)) Option.none), (.mk (Option.some 60) (.cutSlice 2 (.tmp 56) Option.none (Option.some (.tmp
  59)) Option.none) Option.none), (.mk (Option.some 0) (.mv (.tmp 60)) Option.none)]) (.seq (.seq (.region [(.mk (Option.some 61) (.mv (.tmp 2)) Option.none), (.mk (Option.some 62)
  (.mv (.tmp 0)) Option.none), (.mk (Option.some 63) (.mv (.tmp 1)) Option.none), (.mk (Option.some 64) (.mv (.tmp 7)) Option.none), (.mk (Option.some 65) (.bin .add (.tmp 63)
  (.tmp 64)) Option.none), (.mk (Option.some 66) (.cutSlice 2 (.tmp 62) (Option.some (.tmp 65)) Option.none Option.none) Option.none), (.mk (Option.some 67) (.call 114 [(.tmp 61),
  (.tmp 66)]) Option.none), (.mk (Option.some 68) (.un .not (.tmp 67)) Option.none)]) (.cond (.tmp 68) (.seq (.draws [((.mk (Option.some 69) (.mv (.tmp 0)) Option.none), (0, 9)),
  ((.mk (Option.some 70) (.mv (.tmp 1)) Option.none), (0, 9)), ((.mk (Option.some 71) (.mv (.tmp 7)) Option.none), (0, 9)), ((.mk (Option.some 72) (.bin .add (.tmp 70) (.tmp 71))
  Option.none), (0, 9)), ((.mk (Option.some 73) (.cutSlice 2 (.tmp 69) (Option.some (.tmp 72)) Option.none Option.none) Option.none), (0, 9)), ((.mk (Option.some 74) (.mv (.tmp 0))
  Option.none), (0, 9)), ((.mk (Option.some 75) (.mv (.tmp 1)) Option.none), (0, 9)), ((.mk (Option.some 76) (.cutSlice 2 (.tmp 74) (Option.some (.tmp 75)) Option.none Option.none)
  Option.none), (0, 9)), ((.mk (Option.some 77) (.extract (.const (.bool Bool.false)) 0) Option.none), (0, 9))]) (.seq (.region [(.mk (Option.some 78) (.mv (.tmp 0)) Option.none),
  (.mk (Option.some 79) (.mv (.tmp 1)) Option.none), (.mk (Option.some 80) (.cutSlice 2 (.tmp 78) (Option.some (.tmp 79)) Option.none Option.none) Option.none), (.mk (Option.some
  81) (.mv (.tmp 2)) Option.none), (.mk (Option.some 82) (.extract (.const (.bool Bool.false)) 0) Option.none)]) (.seq (.region [(.mk (Option.some 83) (.mv (.tmp 0)) Option.none),
  (.mk (Option.some 6) (.mv (.tmp 83)) Option.none)]) .ret))) .skip)) (.seq (.region [(.mk (Option.some 84) (.mv (.tmp 0)) Option.none), (.mk (Option.some 85) (.mv (.tmp 8))
  Option.none), (.mk (Option.some 86) (.cutSlice 2 (.tmp 84) (Option.some (.tmp 85)) Option.none Option.none) Option.none), (.mk (Option.some 87) (.mv (.tmp 2)) Option.none), (.mk
  (Option.some 88) (.extract (.const (.bool Bool.false)) 0) Option.none)]) (.seq (.region [(.mk (Option.some 89) (.mv (.tmp 0)) Option.none), (.mk (Option.some 90) (.mv (.tmp 1))
  Option.none), (.mk (Option.some 91) (.cutSlice 2 (.tmp 89) (Option.some (.tmp 90)) Option.none Option.none) Option.none), (.mk (Option.some 92) (.mv (.tmp 7)) Option.none), (.mk
  (Option.some 93) (.call 115 [(.tmp 91), (.tmp 92)]) Option.none)]) (.seq (.region [(.mk (Option.some 94) (.mv (.tmp 0)) Option.none), (.mk (Option.some 6) (.mv (.tmp 94))
  Option.none)]) .ret)))))))))))) 95 [(.tmp 6)])
def a98 : AFn :=
  (.mk (.seq (.region [(.mk (Option.some 4) (.mv (.const (.int .i64 0))) Option.none)]) (.seq (.seq (.region [(.mk (Option.some 6) (.mv (.tmp 0)) Option.none), (.mk (Option.some 7)
  (.len (.tmp 6)) Option.none), (.mk (Option.some 8) (.mv (.const (.int .i64 0))) Option.none)]) (.block 0 (.loop (.seq (.region [(.mk (Option.some 9) (.bin .lss (.tmp 8) (.tmp 7))
  Option.none)]) (.seq (.cond (.tmp 9) .skip (.exit 0)) (.seq (.block 1 (.seq (.region [(.mk (Option.some 10) (.mv (.tmp 8)) Option.none), (.mk (Option.some 5) (.mv (.tmp 10))
  Option.none)]) (.seq (.region [(.mk (Option.some 11) (.mv (.tmp 1)) Option.none), (.mk (Option.some 12) (.mv (.tmp 0)) Option.none), (.mk (Option.some 13) (.mv (.tmp 5))
  Option.none), (.mk (Option.some 14) (.atSlice 3 (.tmp 12) (.tmp 13)) Option.none), (.mk (Option.some 15) (.load 3 Bool.true (.tmp 14)) Option.none), (.mk (Option.some 16) (.callv
  (.tmp 11) [(.tmp 15)]) Option.none)]) (.cond (.tmp 16) (.seq (.region [(.mk (Option.some 17) (.mv (.tmp 5)) Option.none), (.mk (Option.some 4) (.mv (.tmp 17)) Option.none)])
  .ret) .skip)))) (.region [(.mk (Option.some 18) (.bin .add (.tmp 8) (.const (.int .i64 1))) Option.none), (.mk (Option.some 8) (.mv (.tmp 18)) Option.none)]))))))) (.seq (.region
  [(.mk (Option.some 4) (.mv (.const (.int .i64 (-1)))) Option.none)]) .ret))) 19 [(.tmp 4)])
def a99 : AFn :=
  (.mk (.seq (.region [(.mk (Option.some 2) (.mv (.const (.slice Option.none 0 0))) Option.none)]) (.seq (.seq (.region [(.mk (Option.some 3) (.mv (.tmp 0)) Option.none), (.mk
  (Option.some 4) (.eq .nilSlice Bool.false (.tmp 3) (.const (.slice Option.none 0 0))) Option.none)]) (.cond (.tmp 4) (.seq (.region [(.mk (Option.some 2) (.mv (.const (.slice
  Option.none 0 0))) Option.none)]) .ret) .skip)) (.seq (.region [(.mk (Option.some 5) (.buildSlice 0 2 [] []) Option.none), (.mk (Option.some 6) (.mv (.tmp 0)) Option.none), (.mk
  (Option.some 7) (.append Bool.false 2 24 (.tmp 5) (.tmp 6)) Option.none), (.mk (Option.some 2) (.mv (.tmp 7)) Option.none)]) .ret))) 8 [(.tmp 2)])
def a100 : AFn :=
  (.mk (.seq (.region [(.mk (Option.some 6) (.mv (.const (.slice Option.none 0 0))) Option.none)]) (.seq (.region [(.mk (Option.some 8) (.mv (.tmp 0)) Option.none), (.mk (Option.some
  9) (.mv (.tmp 1)) Option.none), (.mk (Option.some 10) (.mv (.tmp 2)) Option.none), (.mk (Option.some 11) (.mv (.tmp 0)) Option.none), (.mk (Option.some 12) (.len (.tmp 11))
  Option.none), (.mk (Option.some 13) (.cutSlice 2 (.tmp 8) (Option.some (.tmp 9)) (Option.some (.tmp 10)) (Option.some (.tmp 12))) Option.none)]) (.seq (.seq (.region [(.mk
  (Option.some 14) (.mv (.tmp 1)) Option.none), (.mk (Option.some 15) (.mv (.tmp 2)) Option.none), (.mk (Option.some 16) (.bin .eql (.tmp 14) (.tmp 15)) Option.none)]) (.cond (.tmp
  16) (.seq (.region [(.mk (Option.some 17) (.mv (.tmp 0)) Option.none), (.mk (Option.some 6) (.mv (.tmp 17)) Option.none)]) .ret) .skip)) (.seq (.region [(.mk (Option.some 18)
  (.mv (.tmp 0)) Option.none), (.mk (Option.some 19) (.len (.tmp 18)) Option.none), (.mk (Option.some 7) (.mv (.tmp 19)) Option.none)]) (.seq (.draws [((.mk (Option.some 20) (.mv
  (.tmp 0)) Option.none), (0, 6)), ((.mk (Option.some 21) (.mv (.tmp 1)) Option.none), (0, 6)), ((.mk (Option.some 22) (.cutSlice 2 (.tmp 20) Option.none (Option.some (.tmp 21))
  Option.none) Option.none), (0, 6)), ((.mk (Option.some 23) (.mv (.tmp 0)) Option.none), (0, 6)), ((.mk (Option.some 24) (.mv (.tmp 2)) Option.none), (0, 6)), ((.mk (Option.some
  25) (.cutSlice 2 (.tmp 23) (Option.some (.tmp 24)) Option.none Option.none) Option.none), (0, 6)), ((.mk (Option.some 26) (.append Bool.false 2 24 (.tmp 22) (.tmp 25))
  Option.none), (0, 8)), ((.mk (Option.some 0) (.mv (.tmp 26)) Option.none), (7, 8))]) (.seq (.region [(.mk (Option.some 27) (.mv (.tmp 0)) Option.none), (.mk (Option.some 28) (.mv
  (.tmp 0)) Option.none), (.mk (Option.some 29) (.len (.tmp 28)) Option.none), (.mk (Option.some 30) (.mv (.tmp 7)) Option.none), (.mk (Option.some 31) (.cutSlice 2 (.tmp 27)
  (Option.some (.tmp 29)) (Option.some (.tmp 30)) Option.none) Option.none), (.mk Option.none (.clearS [(.str []), (.int .i64 0)] (.tmp 31)) Option.none)]) (.seq (.region [(.mk
  (Option.some 32) (.mv (.tmp 0)) Option.none), (.mk (Option.some 6) (.mv (.tmp 32)) Option.none)]) .ret))))))) 33 [(.tmp 6)])
def a106 : AFn :=
  (.mk (.seq (.region [(.mk (Option.some 2) (.mv (.const (.int .i64 0))) Option.none)]) (.seq (.cond (.const (.bool Bool.false)) (.seq (.region [(.mk (Option.some 3) (.mv (.tmp 0))
  Option.none), (.mk (Option.some 4) (.conv .u32 (.tmp 3)) Option.none), (.mk (Option.some 5) (.call 125 [(.tmp 4)]) Option.none), (.mk (Option.some 2) (.mv (.tmp 5))
  Option.none)]) .ret) .skip) (.seq (.region [(.mk (Option.some 6) (.mv (.tmp 0)) Option.none), (.mk (Option.some 7) (.call 126 [(.tmp 6)]) Option.none), (.mk (Option.some 2) (.mv
  (.tmp 7)) Option.none)]) .ret))) 8 [(.tmp 2)])
def a107 : AFn :=
  (.mk (.seq (.region [(.mk (Option.some 2) (.mv (.const .nilIface)) Option.none)]) (.seq (.seq (.region [(.mk (Option.some 3) (.mv (.tmp 0)) Option.none), (.mk (Option.some 4) (.bin
  .lss (.tmp 3) (.const (.int .i64 0))) Option.none), (.mk (Option.some 5) (.mv (.tmp 4)) Option.none), (.mk (Option.some 6) (.mv (.tmp 0)) (Option.some (5, Bool.false))), (.mk
  (Option.some 7) (.bin .gtr (.tmp 6) (.const (.int .i64 1048576))) (Option.some (5, Bool.false))), (.mk (Option.some 8) (.pick (.tmp 5) (.const (.bool Bool.true)) (.tmp 7))
  Option.none)]) (.cond (.tmp 8) (.seq (.region [(.mk (Option.some 9) (.mv (.tmp 0)) Option.none), (.mk (Option.some 10) (.call 35 [(.const (.int .i64 2))]) Option.none), (.mk
  (Option.some 11) (.call 39 [(.const (.int .i64 1048576)), (.tmp 9), (.tmp 10)]) Option.none), (.mk (Option.some 2) (.mv (.tmp 11)) Option.none)]) .ret) .skip)) (.seq (.region
  [(.mk (Option.some 2) (.mv (.const .nilIface)) Option.none)]) .ret))) 12 [(.tmp 2)])
def a108 : AFn :=
  (.mk (.seq (.region [(.mk (Option.some 2) (.mv (.const (.int .i64 0))) Option.none)]) (.seq (.seq (.region [(.mk (Option.some 3) (.mv (.tmp 0)) Option.none), (.mk (Option.some 4)
  (.eq .ptr Bool.false (.tmp 3) (.const (.pointer Option.none))) Option.none)]) (.cond (.tmp 4) (.seq (.region [(.mk (Option.some 2) (.mv (.const (.int .i64 0))) Option.none)])
  .ret) .skip)) (.seq (.draws [((.mk (Option.some 5) (.mv (.tmp 0)) Option.none), (0, 9)), ((.mk (Option.some 6) (.nilCheck (.tmp 5)) Option.none), (0, 9)), ((.mk (Option.some 7)
  (.fieldAddr 0 (.tmp 6)) Option.none), (0, 9)), ((.mk (Option.some 8) (.load 1 Bool.false (.tmp 7)) Option.none), (0, 9)), ((.mk (Option.some 9) (.mv (.tmp 0)) Option.none), (0,
  5)), ((.mk (Option.some 10) (.call 127 [(.tmp 9)]) Option.none), (0, 9)), ((.mk (Option.some 11) (.bin .sub (.tmp 8) (.tmp 10)) Option.none), (6, 9)), ((.mk (Option.some 12)
  (.minmax Bool.true [(.tmp 11), (.const (.int .i64 0))]) Option.none), (6, 9)), ((.mk (Option.some 2) (.mv (.tmp 12)) Option.none), (6, 9))]) .ret))) 13 [(.tmp 2)])
def a109 : AFn :=
  (.mk (.seq (.region [(.mk (Option.some 8) (.mv (.const (.bool Bool.true))) Option.none)]) (.seq (.region [(.mk (Option.some 9) (.mv (.const (.bool Bool.true))) Option.none)])
  (.block 0 (.loop (.block 1 (.seq (.region [(.mk (Option.some 19) (.mv (.tmp 2)) Option.none), (.mk (Option.some 20) (.mv (.tmp 1)) Option.none), (.mk (Option.some 21) (.bin .sub
  (.tmp 19) (.tmp 20)) Option.none), (.mk (Option.some 10) (.mv (.tmp 21)) Option.none)]) (.seq (.seq (.region [(.mk (Option.some 22) (.mv (.tmp 10)) Option.none), (.mk
  (Option.some 23) (.bin .leq (.tmp 22) (.const (.int .i64 12))) Option.none)]) (.cond (.tmp 23) (.seq (.region [(.mk (Option.some 24) (.mv (.tmp 0)) Option.none), (.mk
  (Option.some 25) (.mv (.tmp 1)) Option.none), (.mk (Option.some 26) (.mv (.tmp 2)) Option.none), (.mk (Option.some 27) (.call 128 [(.tmp 24), (.tmp 25), (.tmp 26)])
  Option.none)]) .ret) .skip)) (.seq (.seq (.region [(.mk (Option.some 28) (.mv (.tmp 3)) Option.none), (.mk (Option.some 29) (.bin .eql (.tmp 28) (.const (.int .i64 0)))
  Option.none)]) (.cond (.tmp 29) (.seq (.region [(.mk (Option.some 30) (.mv (.tmp 0)) Option.none), (.mk (Option.some 31) (.mv (.tmp 1)) Option.none), (.mk (Option.some 32) (.mv
  (.tmp 2)) Option.none), (.mk (Option.some 33) (.call 129 [(.tmp 30), (.tmp 31), (.tmp 32)]) Option.none)]) .ret) .skip)) (.seq (.seq (.region [(.mk (Option.some 34) (.mv (.tmp
  8)) Option.none), (.mk (Option.some 35) (.un .not (.tmp 34)) Option.none)]) (.cond (.tmp 35) (.seq (.region [(.mk (Option.some 36) (.mv (.tmp 0)) Option.none), (.mk (Option.some
  37) (.mv (.tmp 1)) Option.none), (.mk (Option.some 38) (.mv (.tmp 2)) Option.none), (.mk (Option.some 39) (.call 130 [(.tmp 36), (.tmp 37), (.tmp 38)]) Option.none)]) (.region
  [(.mk (Option.some 40) (.mv (.tmp 3)) Option.none), (.mk (Option.some 41) (.bin .sub (.tmp 40) (.const (.int .i64 1))) Option.none), (.mk (Option.some 3) (.mv (.tmp 41))
  Option.none)])) .skip)) (.seq (.region [(.mk (Option.some 43) (.mv (.tmp 0)) Option.none), (.mk (Option.some 44) (.mv (.tmp 1)) Option.none), (.mk (Option.some 45) (.mv (.tmp 2))
  Option.none), (.mk (Option.some 46) (.call 131 [(.tmp 43), (.tmp 44), (.tmp 45)]) Option.none), (.mk (Option.some 42) (.mv (.tmp 46)) Option.none), (.mk (Option.some 47)
  (.extract (.tmp 42) 0) Option.none), (.mk (Option.some 48) (.extract (.tmp 42) 1) Option.none), (.mk (Option.some 11) (.mv (.tmp 47)) Option.none), (.mk (Option.some 12) (.mv
  (.tmp 48)) Option.none)]) (.seq (.seq (.region [(.mk (Option.some 49) (.mv (.tmp 12)) Option.none), (.mk (Option.some 50) (.bin .eql (.tmp 49) (.const (.int .i64 2)))
  Option.none)]) (.cond (.tmp 50) (.seq (.region [(.mk (Option.some 51) (.mv (.tmp 0)) Option.none), (.mk (Option.some 52) (.mv (.tmp 1)) Option.none), (.mk (Option.some 53) (.mv
  (.tmp 2)) Option.none), (.mk (Option.some 54) (.call 132 [(.tmp 51), (.tmp 52), (.tmp 53)]) Option.none)]) (.seq (.region [(.mk (Option.some 55) (.mv (.tmp 2)) Option.none), (.mk
  (Option.some 56) (.bin .sub (.tmp 55) (.const (.int .i64 1))) Option.none), (.mk (Option.some 57) (.mv (.tmp 11)) Option.none), (.mk (Option.some 58) (.mv (.tmp 1)) Option.none),
  (.mk (Option.some 59) (.bin .sub (.tmp 57) (.tmp 58)) Option.none), (.mk (Option.some 60) (.bin .sub (.tmp 56) (.tmp 59)) Option.none), (.mk (Option.some 11) (.mv (.tmp 60))
  Option.none)]) (.region [(.mk (Option.some 12) (.mv (.const (.int .i64 1))) Option.none)]))) .skip)) (.seq (.seq (.region [(.mk (Option.some 61) (.mv (.tmp 8)) Option.none), (.mk
  (Option.some 62) (.mv (.tmp 61)) Option.none), (.mk (Option.some 63) (.mv (.tmp 9)) (Option.some (62, Bool.true))), (.mk (Option.some 64) (.pick (.tmp 62) (.tmp 63) (.const
  (.bool Bool.false))) Option.none), (.mk (Option.some 65) (.mv (.tmp 64)) Option.none), (.mk (Option.some 66) (.mv (.tmp 12)) (Option.some (65, Bool.true))), (.mk (Option.some 67)
  (.bin .eql (.tmp 66) (.const (.int .i64 1))) (Option.some (65, Bool.true))), (.mk (Option.some 68) (.pick (.tmp 65) (.tmp 67) (.const (.bool Bool.false))) Option.none)]) (.cond
  (.tmp 68) (.seq (.region [(.mk (Option.some 69) (.mv (.tmp 0)) Option.none), (.mk (Option.some 70) (.mv (.tmp 1)) Option.none), (.mk (Option.some 71) (.mv (.tmp 2)) Option.none),
  (.mk (Option.some 72) (.call 133 [(.tmp 69), (.tmp 70), (.tmp 71)]) Option.none)]) (.cond (.tmp 72) .ret .skip)) .skip)) (.seq (.seq (.draws [((.mk (Option.some 73) (.mv (.tmp
  1)) Option.none), (0, 12)), ((.mk (Option.some 74) (.bin .gtr (.tmp 73) (.const (.int .i64 0))) Option.none), (0, 12)), ((.mk (Option.some 75) (.mv (.tmp 74)) Option.none), (0,
  12)), ((.mk (Option.some 76) (.mv (.tmp 0)) (Option.some (75, Bool.true))), (0, 12)), ((.mk (Option.some 77) (.mv (.tmp 1)) (Option.some (75, Bool.true))), (0, 12)), ((.mk
  (Option.some 78) (.bin .sub (.tmp 77) (.const (.int .i64 1))) (Option.some (75, Bool.true))), (0, 12)), ((.mk (Option.some 79) (.atSlice 1 (.tmp 76) (.tmp 78)) (Option.some (75,
  Bool.true))), (0, 12)), ((.mk (Option.some 80) (.load 1 Bool.false (.tmp 79)) (Option.some (75, Bool.true))), (0, 12)), ((.mk (Option.some 81) (.mv (.tmp 0)) (Option.some (75,
  Bool.true))), (0, 12)), ((.mk (Option.some 82) (.mv (.tmp 11)) (Option.some (75, Bool.true))), (0, 12)), ((.mk (Option.some 83) (.atSlice 1 (.tmp 81) (.tmp 82)) (Option.some (75,
  Bool.true))), (0, 12)), ((.mk (Option.some 84) (.load 1 Bool.false (.tmp 83)) (Option.some (75, Bool.true))), (0, 12)), ((.mk (Option.some 85) (.call 134 [(.tmp 80), (.tmp 84)])
  (Option.some (75, Bool.true))), (0, 15)), ((.mk (Option.some 86) (.un .not (.tmp 85)) (Option.some (75, Bool.true))), (13, 15)), ((.mk (Option.some 87) (.pick (.tmp 75) (.tmp 86)
  (.const (.bool Bool.false))) Option.none), (13, 15))]) (.cond (.tmp 87) (.seq (.region [(.mk (Option.some 88) (.mv (.tmp 0)) Option.none), (.mk (Option.some 89) (.mv (.tmp 1))
  Option.none), (.mk (Option.some 90) (.mv (.tmp 2)) Option.none), (.mk (Option.some 91) (.mv (.tmp 11)) Option.none), (.mk (Option.some 92) (.call 135 [(.tmp 88), (.tmp 89), (.tmp
  90), (.tmp 91)]) Option.none), (.mk (Option.some 13) (.mv (.tmp 92)) Option.none)]) (.seq (.region [(.mk (Option.some 93) (.mv (.tmp 13)) Option.none), (.mk (Option.some 1) (.mv
  (.tmp 93)) Option.none)]) (.exit 1))) .skip)) (.seq (.region [(.mk (Option.some 95) (.mv (.tmp 0)) Option.none), (.mk (Option.some 96) (.mv (.tmp 1)) Option.none), (.mk
  (Option.some 97) (.mv (.tmp 2)) Option.none), (.mk (Option.some 98) (.mv (.tmp 11)) Option.none), (.mk (Option.some 99) (.call 136 [(.tmp 95), (.tmp 96), (.tmp 97), (.tmp 98)])
  Option.none), (.mk (Option.some 94) (.mv (.tmp 99)) Option.none), (.mk (Option.some 100) (.extract (.tmp 94) 0) Option.none), (.mk (Option.some 101) (.extract (.tmp 94) 1)
  Option.none), (.mk (Option.some 14) (.mv (.tmp 100)) Option.none), (.mk (Option.some 15) (.mv (.tmp 101)) Option.none)]) (.seq (.region [(.mk (Option.some 102) (.mv (.tmp 15))
  Option.none), (.mk (Option.some 9) (.mv (.tmp 102)) Option.none)]) (.seq (.region [(.mk (Option.some 103) (.mv (.tmp 14)) Option.none), (.mk (Option.some 104) (.mv (.tmp 1))
  Option.none), (.mk (Option.some 105) (.bin .sub (.tmp 103) (.tmp 104)) Option.none), (.mk (Option.some 106) (.mv (.tmp 2)) Option.none), (.mk (Option.some 107) (.mv (.tmp 14))
  Option.none), (.mk (Option.some 108) (.bin .sub (.tmp 106) (.tmp 107)) Option.none), (.mk (Option.some 16) (.mv (.tmp 105)) Option.none), (.mk (Option.some 17) (.mv (.tmp 108))
  Option.none)]) (.seq (.region [(.mk (Option.some 109) (.mv (.tmp 10)) Option.none), (.mk (Option.some 110) (.bin .quo (.tmp 109) (.const (.int .i64 8))) Option.none), (.mk
  (Option.some 18) (.mv (.tmp 110)) Option.none)]) (.seq (.region [(.mk (Option.some 111) (.mv (.tmp 16)) Option.none), (.mk (Option.some 112) (.mv (.tmp 17)) Option.none), (.mk
  (Option.some 113) (.bin .lss (.tmp 111) (.tmp 112)) Option.none)]) (.cond (.tmp 113) (.seq (.region [(.mk (Option.some 114) (.mv (.tmp 16)) Option.none), (.mk (Option.some 115)
  (.mv (.tmp 18)) Option.none), (.mk (Option.some 116) (.bin .geq (.tmp 114) (.tmp 115)) Option.none), (.mk (Option.some 8) (.mv (.tmp 116)) Option.none)]) (.seq (.region [(.mk
  (Option.some 117) (.mv (.tmp 0)) Option.none), (.mk (Option.some 118) (.mv (.tmp 1)) Option.none), (.mk (Option.some 119) (.mv (.tmp 14)) Option.none), (.mk (Option.some 120)
  (.mv (.tmp 3)) Option.none), (.mk (Option.some 121) (.call 109 [(.tmp 117), (.tmp 118), (.tmp 119), (.tmp 120)]) Option.none)]) (.region [(.mk (Option.some 122) (.mv (.tmp 14))
  Option.none), (.mk (Option.some 123) (.bin .add (.tmp 122) (.const (.int .i64 1))) Option.none), (.mk (Option.some 1) (.mv (.tmp 123)) Option.none)]))) (.seq (.region [(.mk
  (Option.some 124) (.mv (.tmp 17)) Option.none), (.mk (Option.some 125) (.mv (.tmp 18)) Option.none), (.mk (Option.some 126) (.bin .geq (.tmp 124) (.tmp 125)) Option.none), (.mk
  (Option.some 8) (.mv (.tmp 126)) Option.none)]) (.seq (.region [(.mk (Option.some 127) (.mv (.tmp 0)) Option.none), (.mk (Option.some 128) (.mv (.tmp 14)) Option.none), (.mk
  (Option.some 129) (.bin .add (.tmp 128) (.const (.int .i64 1))) Option.none), (.mk (Option.some 130) (.mv (.tmp 2)) Option.none), (.mk (Option.some 131) (.mv (.tmp 3))
  Option.none), (.mk (Option.some 132) (.call 109 [(.tmp 127), (.tmp 129), (.tmp 130), (.tmp 131)]) Option.none)]) (.region [(.mk (Option.some 133) (.mv (.tmp 14)) Option.none),
  (.mk (Option.some 2) (.mv (.tmp 133)) Option.none)])))))))))))))))))))))) 134 [])
def a111 : AFn :=
  (.mk (.seq (.region [(.mk (Option.some 6) (.mv (.const (.int .i64 0))) Option.none), (.mk (Option.some 7) (.mv (.const (.bool Bool.false))) Option.none)]) (.seq (.region [(.mk
  (Option.some 12) (.mv (.tmp 0)) Option.none), (.mk (Option.some 13) (.len (.tmp 12)) Option.none), (.mk (Option.some 8) (.mv (.tmp 13)) Option.none)]) (.seq (.region [(.mk
  (Option.some 14) (.mv (.tmp 8)) Option.none), (.mk (Option.some 9) (.mv (.const (.int .i64 0))) Option.none), (.mk (Option.some 10) (.mv (.tmp 14)) Option.none)]) (.seq (.block 0
  (.loop (.seq (.seq (.region [(.mk (Option.some 15) (.mv (.tmp 9)) Option.none), (.mk (Option.some 16) (.mv (.tmp 10)) Option.none), (.mk (Option.some 17) (.bin .lss (.tmp 15)
  (.tmp 16)) Option.none)]) (.cond (.tmp 17) .skip (.exit 0))) (.block 1 (.seq (.region [(.mk (Option.some 18) (.mv (.tmp 9)) Option.none), (.mk (Option.some 19) (.mv (.tmp 10))
  Option.none), (.mk (Option.some 20) (.bin .add (.tmp 18) (.tmp 19)) Option.none), (.mk (Option.some 21) (.conv .u64 (.tmp 20)) Option.none), (.mk (Option.some 22) (.bin .shr
  (.tmp 21) (.const (.int .u64 1))) Option.none), (.mk (Option.some 23) (.conv .i64 (.tmp 22)) Option.none), (.mk (Option.some 11) (.mv (.tmp 23)) Option.none)]) (.seq (.region
  [(.mk (Option.some 24) (.mv (.tmp 2)) Option.none), (.mk (Option.some 25) (.mv (.tmp 0)) Option.none), (.mk (Option.some 26) (.mv (.tmp 11)) Option.none), (.mk (Option.some 27)
  (.atSlice 2 (.tmp 25) (.tmp 26)) Option.none), (.mk (Option.some 28) (.load 2 Bool.true (.tmp 27)) Option.none), (.mk (Option.some 29) (.mv (.tmp 1)) Option.none), (.mk
  (Option.some 30) (.callv (.tmp 24) [(.tmp 28), (.tmp 29)]) Option.none), (.mk (Option.some 31) (.bin .lss (.tmp 30) (.const (.int .i64 0))) Option.none)]) (.cond (.tmp 31)
  (.region [(.mk (Option.some 32) (.mv (.tmp 11)) Option.none), (.mk (Option.some 33) (.bin .add (.tmp 32) (.const (.int .i64 1))) Option.none), (.mk (Option.some 9) (.mv (.tmp
  33)) Option.none)]) (.region [(.mk (Option.some 34) (.mv (.tmp 11)) Option.none), (.mk (Option.some 10) (.mv (.tmp 34)) Option.none)])))))))) (.seq (.region [(.mk (Option.some
  35) (.mv (.tmp 9)) Option.none), (.mk (Option.some 36) (.mv (.tmp 9)) Option.none), (.mk (Option.some 37) (.mv (.tmp 8)) Option.none), (.mk (Option.some 38) (.bin .lss (.tmp 36)
  (.tmp 37)) Option.none), (.mk (Option.some 39) (.mv (.tmp 38)) Option.none), (.mk (Option.some 40) (.mv (.tmp 2)) (Option.some (39, Bool.true))), (.mk (Option.some 41) (.mv (.tmp
  0)) (Option.some (39, Bool.true))), (.mk (Option.some 42) (.mv (.tmp 9)) (Option.some (39, Bool.true))), (.mk (Option.some 43) (.atSlice 2 (.tmp 41) (.tmp 42)) (Option.some (39,
  Bool.true))), (.mk (Option.some 44) (.load 2 Bool.true (.tmp 43)) (Option.some (39, Bool.true))), (.mk (Option.some 45) (.mv (.tmp 1)) (Option.some (39, Bool.true))), (.mk
  (Option.some 46) (.callv (.tmp 40) [(.tmp 44), (.tmp 45)]) (Option.some (39, Bool.true))), (.mk (Option.some 47) (.bin .eql (.tmp 46) (.const (.int .i64 0))) (Option.some (39,
  Bool.true))), (.mk (Option.some 48) (.pick (.tmp 39) (.tmp 47) (.const (.bool Bool.false))) Option.none), (.mk (Option.some 6) (.mv (.tmp 35)) Option.none), (.mk (Option.some 7)
  (.mv (.tmp 48)) Option.none)]) .ret))))) 49 [(.tmp 6), (.tmp 7)])
def a112 : AFn :=
  (.mk (.seq (.region [(.mk (Option.some 2) (.box (.tmp 0)) Option.none), (.mk (Option.some 4) (.mv (.const (.int .i64 0))) Option.none)]) (.seq (.region [(.mk (Option.some 5)
  (.fieldAddr 0 (.tmp 2)) Option.none), (.mk (Option.some 6) (.load 1 Bool.false (.tmp 5)) Option.none), (.mk (Option.some 7) (.mv (.tmp 1)) Option.none), (.mk (Option.some 8)
  (.call 113 [(.tmp 6), (.tmp 7)]) Option.none), (.mk (Option.some 4) (.mv (.tmp 8)) Option.none)]) .ret)) 9 [(.tmp 4)])
def a113 : AFn :=
  (.mk (.seq (.region [(.mk (Option.some 4) (.mv (.const (.int .i64 0))) Option.none)]) (.seq (.region [(.mk (Option.some 5) (.mv (.tmp 0)) Option.none), (.mk (Option.some 6) (.mv
  (.tmp 1)) Option.none), (.mk (Option.some 7) (.call 138 [(.tmp 5), (.tmp 6)]) Option.none), (.mk (Option.some 4) (.mv (.tmp 7)) Option.none)]) .ret)) 8 [(.tmp 4)])
def a125 : AFn :=
  (.mk (.seq (.region [(.mk (Option.some 2) (.mv (.const (.int .i64 0))) Option.none)]) (.seq (.seq (.region [(.mk (Option.some 3) (.mv (.tmp 0)) Option.none), (.mk (Option.some 4)
  (.bin .geq (.tmp 3) (.const (.int .u32 65536))) Option.none)]) (.cond (.tmp 4) (.seq (.region [(.mk (Option.some 5) (.mv (.tmp 0)) Option.none), (.mk (Option.some 6) (.bin .shr
  (.tmp 5) (.const (.int .u64 16))) Option.none), (.mk (Option.some 0) (.mv (.tmp 6)) Option.none)]) (.region [(.mk (Option.some 2) (.mv (.const (.int .i64 16))) Option.none)]))
  .skip)) (.seq (.seq (.region [(.mk (Option.some 7) (.mv (.tmp 0)) Option.none), (.mk (Option.some 8) (.bin .geq (.tmp 7) (.const (.int .u32 256))) Option.none)]) (.cond (.tmp 8)
  (.seq (.region [(.mk (Option.some 9) (.mv (.tmp 0)) Option.none), (.mk (Option.some 10) (.bin .shr (.tmp 9) (.const (.int .u64 8))) Option.none), (.mk (Option.some 0) (.mv (.tmp
  10)) Option.none)]) (.region [(.mk (Option.some 11) (.mv (.tmp 2)) Option.none), (.mk (Option.some 12) (.bin .add (.tmp 11) (.const (.int .i64 8))) Option.none), (.mk
  (Option.some 2) (.mv (.tmp 12)) Option.none)])) .skip)) (.seq (.region [(.mk (Option.some 13) (.mv (.tmp 2)) Option.none), (.mk (Option.some 14) (.mv (.tmp 0)) Option.none), (.mk
  (Option.some 15) (.conv .u8 (.tmp 14)) Option.none), (.mk (Option.some 16) (.byteAt (.const (.string (ByteArray.mk #[0, 1, 2, 2, 3, 3, 3, 3, 4, 4, 4, 4, 4, 4, 4, 4, 5, 5, 5, 5,
  5, 5, 5, 5, 5, 5, 5, 5, 5, 5, 5, 5, 6, 6, 6, 6, 6, 6, 6, 6, 6, 6, 6, 6, 6, 6, 6, 6, 6, 6, 6, 6, 6, 6, 6, 6, 6, 6, 6, 6, 6, 6, 6, 6, 7, 7, 7, 7, 7, 7, 7, 7, 7, 7, 7, 7, 7, 7, 7,
  7, 7, 7, 7, 7, 7, 7, 7, 7, 7, 7, 7, 7, 7, 7, 7, 7, 7, 7, 7, 7, 7, 7, 7, 7, 7, 7, 7, 7, 7, 7, 7, 7, 7, 7, 7, 7, 7, 7, 7, 7, 7, 7, 7, 7, 7, 7, 7, 7, 8, 8, 8, 8, 8, 8, 8, 8, 8, 8,
  8, 8, 8, 8, 8, 8, 8, 8, 8, 8, 8, 8, 8, 8, 8, 8, 8, 8, 8, 8, 8, 8, 8, 8, 8, 8, 8, 8, 8, 8, 8, 8, 8, 8, 8, 8, 8, 8, 8, 8, 8, 8, 8, 8, 8, 8, 8, 8, 8, 8, 8, 8, 8, 8, 8, 8, 8, 8, 8,
  8, 8, 8, 8, 8, 8, 8, 8, 8, 8, 8, 8, 8, 8, 8, 8, 8, 8, 8, 8, 8, 8, 8, 8, 8, 8, 8, 8, 8, 8, 8, 8, 8, 8, 8, 8, 8, 8, 8, 8, 8, 8, 8, 8, 8, 8, 8, 8, 8, 8, 8, 8, 8, 8, 8, 8, 8, 8,
  8]))) (.tmp 15)) Option.none), (.mk (Option.some 17) (.conv .i64 (.tmp 16)) Option.none), (.mk (Option.some 18) (.bin .add (.tmp 13) (.tmp 17)) Option.none), (.mk (Option.some 2)
  (.mv (.tmp 18)) Option.none)]) .ret)))) 19 [(.tmp 2)])
def a126 : AFn :=
  (.mk (.seq (.region [(.mk (Option.some 2) (.mv (.const (.int .i64 0))) Option.none)]) (.seq (.seq (.region [(.mk (Option.some 3) (.mv (.tmp 0)) Option.none), (.mk (Option.some 4)
  (.bin .geq (.tmp 3) (.const (.int .u64 4294967296))) Option.none)]) (.cond (.tmp 4) (.seq (.region [(.mk (Option.some 5) (.mv (.tmp 0)) Option.none), (.mk (Option.some 6) (.bin
  .shr (.tmp 5) (.const (.int .u64 32))) Option.none), (.mk (Option.some 0) (.mv (.tmp 6)) Option.none)]) (.region [(.mk (Option.some 2) (.mv (.const (.int .i64 32)))
  Option.none)])) .skip)) (.seq (.seq (.region [(.mk (Option.some 7) (.mv (.tmp 0)) Option.none), (.mk (Option.some 8) (.bin .geq (.tmp 7) (.const (.int .u64 65536)))
  Option.none)]) (.cond (.tmp 8) (.seq (.region [(.mk (Option.some 9) (.mv (.tmp 0)) Option.none), (.mk (Option.some 10) (.bin .shr (.tmp 9) (.const (.int .u64 16))) Option.none),
  (.mk (Option.some 0) (.mv (.tmp 10)) Option.none)]) (.region [(.mk (Option.some 11) (.mv (.tmp 2)) Option.none), (.mk (Option.some 12) (.bin .add (.tmp 11) (.const (.int .i64
  16))) Option.none), (.mk (Option.some 2) (.mv (.tmp 12)) Option.none)])) .skip)) (.seq (.seq (.region [(.mk (Option.some 13) (.mv (.tmp 0)) Option.none), (.mk (Option.some 14)
  (.bin .geq (.tmp 13) (.const (.int .u64 256))) Option.none)]) (.cond (.tmp 14) (.seq (.region [(.mk (Option.some 15) (.mv (.tmp 0)) Option.none), (.mk (Option.some 16) (.bin .shr
  (.tmp 15) (.const (.int .u64 8))) Option.none), (.mk (Option.some 0) (.mv (.tmp 16)) Option.none)]) (.region [(.mk (Option.some 17) (.mv (.tmp 2)) Option.none), (.mk (Option.some
  18) (.bin .add (.tmp 17) (.const (.int .i64 8))) Option.none), (.mk (Option.some 2) (.mv (.tmp 18)) Option.none)])) .skip)) (.seq (.region [(.mk (Option.some 19) (.mv (.tmp 2))
  Option.none), (.mk (Option.some 20) (.mv (.tmp 0)) Option.none), (.mk (Option.some 21) (.conv .u8 (.tmp 20)) Option.none), (.mk (Option.some 22) (.byteAt (.const (.string
  (ByteArray.mk #[0, 1, 2, 2, 3, 3, 3, 3, 4, 4, 4, 4, 4, 4, 4, 4, 5, 5, 5, 5, 5, 5, 5, 5, 5, 5, 5, 5, 5, 5, 5, 5, 6, 6, 6, 6, 6, 6, 6, 6, 6, 6, 6, 6, 6, 6, 6, 6, 6, 6, 6, 6, 6, 6,
  6, 6, 6, 6, 6, 6, 6, 6, 6, 6, 7, 7, 7, 7, 7, 7, 7, 7, 7, 7, 7, 7, 7, 7, 7, 7, 7, 7, 7, 7, 7, 7, 7, 7, 7, 7, 7, 7, 7, 7, 7, 7, 7, 7, 7, 7, 7, 7, 7, 7, 7, 7, 7, 7, 7, 7, 7, 7, 7,
  7, 7, 7, 7, 7, 7, 7, 7, 7, 7, 7, 7, 7, 7, 7, 8, 8, 8, 8, 8, 8, 8, 8, 8, 8, 8, 8, 8, 8, 8, 8, 8, 8, 8, 8, 8, 8, 8, 8, 8, 8, 8, 8, 8, 8, 8, 8, 8, 8, 8, 8, 8, 8, 8, 8, 8, 8, 8, 8,
  8, 8, 8, 8, 8, 8, 8, 8, 8, 8, 8, 8, 8, 8, 8, 8, 8, 8, 8, 8, 8, 8, 8, 8, 8, 8, 8, 8, 8, 8, 8, 8, 8, 8, 8, 8, 8, 8, 8, 8, 8, 8, 8, 8, 8, 8, 8, 8, 8, 8, 8, 8, 8, 8, 8, 8, 8, 8, 8,
  8, 8, 8, 8, 8, 8, 8, 8, 8, 8, 8, 8, 8, 8, 8, 8, 8, 8, 8, 8, 8, 8, 8, 8, 8]))) (.tmp 21)) Option.none), (.mk (Option.some 23) (.conv .i64 (.tmp 22)) Option.none), (.mk
  (Option.some 24) (.bin .add (.tmp 19) (.tmp 23)) Option.none), (.mk (Option.some 2) (.mv (.tmp 24)) Option.none)]) .ret))))) 25 [(.tmp 2)])
def a127 : AFn :=
  (.mk (.seq (.region [(.mk (Option.some 2) (.mv (.const (.int .i64 0))) Option.none)]) (.seq (.region [(.mk (Option.some 3) (.mv (.const (.int .i64 0))) Option.none)]) (.seq (.seq
  (.region [(.mk (Option.some 6) (.mv (.tmp 0)) Option.none), (.mk (Option.some 7) (.call 56 [(.tmp 6)]) Option.none), (.mk (Option.some 8) (.len (.tmp 7)) Option.none), (.mk
  (Option.some 9) (.mv (.const (.int .i64 0))) Option.none)]) (.block 0 (.loop (.seq (.region [(.mk (Option.some 10) (.bin .lss (.tmp 9) (.tmp 8)) Option.none)]) (.seq (.cond (.tmp
  10) .skip (.exit 0)) (.seq (.block 1 (.seq (.region [(.mk (Option.some 11) (.atSlice 1 (.tmp 7) (.tmp 9)) Option.none), (.mk (Option.some 12) (.load 1 Bool.false (.tmp 11))
  Option.none), (.mk (Option.some 5) (.mv (.tmp 12)) Option.none)]) (.region [(.mk (Option.some 13) (.mv (.tmp 3)) Option.none), (.mk (Option.some 14) (.mv (.tmp 0)) Option.none),
  (.mk (Option.some 15) (.nilCheck (.tmp 14)) Option.none), (.mk (Option.some 16) (.fieldAddr 1 (.tmp 15)) Option.none), (.mk (Option.some 17) (.load 1 Bool.false (.tmp 16))
  Option.none), (.mk (Option.some 18) (.mv (.tmp 5)) Option.none), (.mk (Option.some 19) (.lookup (.int .i64) (.agg [(.slice Option.none 0 0 0 0), (.int .i64 0)]) Bool.false (.tmp
  17) (.tmp 18)) Option.none), (.mk (Option.some 20) (.field 0 1 Bool.false (.tmp 19)) Option.none), (.mk (Option.some 21) (.len (.tmp 20)) Option.none), (.mk (Option.some 22)
  (.bin .add (.tmp 13) (.tmp 21)) Option.none), (.mk (Option.some 3) (.mv (.tmp 22)) Option.none)]))) (.region [(.mk (Option.some 23) (.bin .add (.tmp 9) (.const (.int .i64 1)))
  Option.none), (.mk (Option.some 9) (.mv (.tmp 23)) Option.none)]))))))) (.seq (.region [(.mk (Option.some 24) (.mv (.tmp 3)) Option.none), (.mk (Option.some 2) (.mv (.tmp 24))
  Option.none)]) .ret)))) 25 [(.tmp 2)])
def a128 : AFn :=
  (.mk (.seq (.region [(.mk (Option.some 8) (.mv (.tmp 1)) Option.none), (.mk (Option.some 9) (.bin .add (.tmp 8) (.const (.int .i64 1))) Option.none), (.mk (Option.some 6) (.mv
  (.tmp 9)) Option.none)]) (.block 0 (.loop (.seq (.seq (.region [(.mk (Option.some 10) (.mv (.tmp 6)) Option.none), (.mk (Option.some 11) (.mv (.tmp 2)) Option.none), (.mk
  (Option.some 12) (.bin .lss (.tmp 10) (.tmp 11)) Option.none)]) (.cond (.tmp 12) .skip (.exit 0))) (.seq (.block 1 (.seq (.region [(.mk (Option.some 15) (.mv (.tmp 6))
  Option.none), (.mk (Option.some 7) (.mv (.tmp 15)) Option.none)]) (.block 2 (.loop (.seq (.seq (.draws [((.mk (Option.some 16) (.mv (.tmp 7)) Option.none), (0, 13)), ((.mk
  (Option.some 17) (.mv (.tmp 1)) Option.none), (0, 13)), ((.mk (Option.some 18) (.bin .gtr (.tmp 16) (.tmp 17)) Option.none), (0, 13)), ((.mk (Option.some 19) (.mv (.tmp 18))
  Option.none), (0, 13)), ((.mk (Option.some 20) (.mv (.tmp 0)) (Option.some (19, Bool.true))), (0, 13)), ((.mk (Option.some 21) (.mv (.tmp 7)) (Option.some (19, Bool.true))), (0,
  13)), ((.mk (Option.some 22) (.atSlice 1 (.tmp 20) (.tmp 21)) (Option.some (19, Bool.true))), (0, 13)), ((.mk (Option.some 23) (.load 1 Bool.false (.tmp 22)) (Option.some (19,
  Bool.true))), (0, 13)), ((.mk (Option.some 24) (.mv (.tmp 0)) (Option.some (19, Bool.true))), (0, 13)), ((.mk (Option.some 25) (.mv (.tmp 7)) (Option.some (19, Bool.true))), (0,
  13)), ((.mk (Option.some 26) (.bin .sub (.tmp 25) (.const (.int .i64 1))) (Option.some (19, Bool.true))), (0, 13)), ((.mk (Option.some 27) (.atSlice 1 (.tmp 24) (.tmp 26))
  (Option.some (19, Bool.true))), (0, 13)), ((.mk (Option.some 28) (.load 1 Bool.false (.tmp 27)) (Option.some (19, Bool.true))), (0, 13)), ((.mk (Option.some 29) (.call 134 [(.tmp
  23), (.tmp 28)]) (Option.some (19, Bool.true))), (0, 15)), ((.mk (Option.some 30) (.pick (.tmp 19) (.tmp 29) (.const (.bool Bool.false))) Option.none), (14, 15))]) (.cond (.tmp
  30) .skip (.exit 2))) (.seq (.block 3 (.draws [((.mk (Option.some 33) (.mv (.tmp 0)) Option.none), (0, 15)), ((.mk (Option.some 34) (.mv (.tmp 7)) Option.none), (0, 15)), ((.mk
  (Option.some 35) (.mv (.tmp 0)) Option.none), (0, 17)), ((.mk (Option.some 36) (.mv (.tmp 7)) Option.none), (0, 17)), ((.mk (Option.some 37) (.bin .sub (.tmp 36) (.const (.int
  .i64 1))) Option.none), (0, 17)), ((.mk (Option.some 38) (.mv (.tmp 0)) Option.none), (0, 15)), ((.mk (Option.some 39) (.mv (.tmp 7)) Option.none), (0, 15)), ((.mk (Option.some
  40) (.bin .sub (.tmp 39) (.const (.int .i64 1))) Option.none), (0, 15)), ((.mk (Option.some 41) (.atSlice 1 (.tmp 38) (.tmp 40)) Option.none), (0, 15)), ((.mk (Option.some 42)
  (.load 1 Bool.false (.tmp 41)) Option.none), (0, 15)), ((.mk (Option.some 43) (.mv (.tmp 0)) Option.none), (0, 15)), ((.mk (Option.some 44) (.mv (.tmp 7)) Option.none), (0, 15)),
  ((.mk (Option.some 45) (.atSlice 1 (.tmp 43) (.tmp 44)) Option.none), (0, 15)), ((.mk (Option.some 46) (.load 1 Bool.false (.tmp 45)) Option.none), (0, 15)), ((.mk (Option.some
  47) (.atSlice 1 (.tmp 33) (.tmp 34)) Option.none), (0, 15)), ((.mk Option.none (.store 1 (.tmp 47) (.tmp 42)) Option.none), (0, 17)), ((.mk (Option.some 48) (.atSlice 1 (.tmp 35)
  (.tmp 37)) Option.none), (16, 17)), ((.mk Option.none (.store 1 (.tmp 48) (.tmp 46)) Option.none), (16, 18))])) (.region [(.mk (Option.some 31) (.mv (.tmp 7)) Option.none), (.mk
  (Option.some 32) (.bin .sub (.tmp 31) (.const (.int .i64 1))) Option.none), (.mk (Option.some 7) (.mv (.tmp 32)) Option.none)]))))))) (.region [(.mk (Option.some 13) (.mv (.tmp
  6)) Option.none), (.mk (Option.some 14) (.bin .add (.tmp 13) (.const (.int .i64 1))) Option.none), (.mk (Option.some 6) (.mv (.tmp 14)) Option.none)])))))) 49 [])
def a129 : AFn :=
  (.mk (.seq (.region [(.mk (Option.some 11) (.mv (.tmp 1)) Option.none), (.mk (Option.some 6) (.mv (.tmp 11)) Option.none)]) (.seq (.region [(.mk (Option.some 7) (.mv (.const (.int
  .i64 0))) Option.none)]) (.seq (.region [(.mk (Option.some 12) (.mv (.tmp 2)) Option.none), (.mk (Option.some 13) (.mv (.tmp 1)) Option.none), (.mk (Option.some 14) (.bin .sub
  (.tmp 12) (.tmp 13)) Option.none), (.mk (Option.some 8) (.mv (.tmp 14)) Option.none)]) (.seq (.seq (.region [(.mk (Option.some 15) (.mv (.tmp 8)) Option.none), (.mk (Option.some
  16) (.bin .sub (.tmp 15) (.const (.int .i64 1))) Option.none), (.mk (Option.some 17) (.bin .quo (.tmp 16) (.const (.int .i64 2))) Option.none), (.mk (Option.some 9) (.mv (.tmp
  17)) Option.none)]) (.block 0 (.loop (.seq (.seq (.region [(.mk (Option.some 18) (.mv (.tmp 9)) Option.none), (.mk (Option.some 19) (.bin .geq (.tmp 18) (.const (.int .i64 0)))
  Option.none)]) (.cond (.tmp 19) .skip (.exit 0))) (.seq (.block 1 (.region [(.mk (Option.some 22) (.mv (.tmp 0)) Option.none), (.mk (Option.some 23) (.mv (.tmp 9)) Option.none),
  (.mk (Option.some 24) (.mv (.tmp 8)) Option.none), (.mk (Option.some 25) (.mv (.tmp 6)) Option.none), (.mk (Option.some 26) (.call 146 [(.tmp 22), (.tmp 23), (.tmp 24), (.tmp
  25)]) Option.none)])) (.region [(.mk (Option.some 20) (.mv (.tmp 9)) Option.none), (.mk (Option.some 21) (.bin .sub (.tmp 20) (.const (.int .i64 1))) Option.none), (.mk
  (Option.some 9) (.mv (.tmp 21)) Option.none)])))))) (.seq (.region [(.mk (Option.some 27) (.mv (.tmp 8)) Option.none), (.mk (Option.some 28) (.bin .sub (.tmp 27) (.const (.int
  .i64 1))) Option.none), (.mk (Option.some 10) (.mv (.tmp 28)) Option.none)]) (.block 2 (.loop (.seq (.seq (.region [(.mk (Option.some 29) (.mv (.tmp 10)) Option.none), (.mk
  (Option.some 30) (.bin .geq (.tmp 29) (.const (.int .i64 0))) Option.none)]) (.cond (.tmp 30) .skip (.exit 2))) (.seq (.block 3 (.seq (.draws [((.mk (Option.some 33) (.mv (.tmp
  0)) Option.none), (0, 17)), ((.mk (Option.some 34) (.mv (.tmp 6)) Option.none), (0, 17)), ((.mk (Option.some 35) (.mv (.tmp 0)) Option.none), (0, 19)), ((.mk (Option.some 36)
  (.mv (.tmp 6)) Option.none), (0, 19)), ((.mk (Option.some 37) (.mv (.tmp 10)) Option.none), (0, 19)), ((.mk (Option.some 38) (.bin .add (.tmp 36) (.tmp 37)) Option.none), (0,
  19)), ((.mk (Option.some 39) (.mv (.tmp 0)) Option.none), (0, 17)), ((.mk (Option.some 40) (.mv (.tmp 6)) Option.none), (0, 17)), ((.mk (Option.some 41) (.mv (.tmp 10))
  Option.none), (0, 17)), ((.mk (Option.some 42) (.bin .add (.tmp 40) (.tmp 41)) Option.none), (0, 17)), ((.mk (Option.some 43) (.atSlice 1 (.tmp 39) (.tmp 42)) Option.none), (0,
  17)), ((.mk (Option.some 44) (.load 1 Bool.false (.tmp 43)) Option.none), (0, 17)), ((.mk (Option.some 45) (.mv (.tmp 0)) Option.none), (0, 17)), ((.mk (Option.some 46) (.mv
  (.tmp 6)) Option.none), (0, 17)), ((.mk (Option.some 47) (.atSlice 1 (.tmp 45) (.tmp 46)) Option.none), (0, 17)), ((.mk (Option.some 48) (.load 1 Bool.false (.tmp 47))
  Option.none), (0, 17)), ((.mk (Option.some 49) (.atSlice 1 (.tmp 33) (.tmp 34)) Option.none), (0, 17)), ((.mk Option.none (.store 1 (.tmp 49) (.tmp 44)) Option.none), (0, 19)),
  ((.mk (Option.some 50) (.atSlice 1 (.tmp 35) (.tmp 38)) Option.none), (18, 19)), ((.mk Option.none (.store 1 (.tmp 50) (.tmp 48)) Option.none), (18, 20))]) (.region [(.mk
  (Option.some 51) (.mv (.tmp 0)) Option.none), (.mk (Option.some 52) (.mv (.tmp 7)) Option.none), (.mk (Option.some 53) (.mv (.tmp 10)) Option.none), (.mk (Option.some 54) (.mv
  (.tmp 6)) Option.none), (.mk (Option.some 55) (.call 146 [(.tmp 51), (.tmp 52), (.tmp 53), (.tmp 54)]) Option.none)]))) (.region [(.mk (Option.some 31) (.mv (.tmp 10))
  Option.none), (.mk (Option.some 32) (.bin .sub (.tmp 31) (.const (.int .i64 1))) Option.none), (.mk (Option.some 10) (.mv (.tmp 32)) Option.none)])))))))))) 56 [])
def a130 : AFn :=
  (.mk (.seq (.region [(.mk (Option.some 11) (.mv (.tmp 2)) Option.none), (.mk (Option.some 12) (.mv (.tmp 1)) Option.none), (.mk (Option.some 13) (.bin .sub (.tmp 11) (.tmp 12))
  Option.none), (.mk (Option.some 6) (.mv (.tmp 13)) Option.none)]) (.seq (.region [(.mk (Option.some 14) (.mv (.tmp 6)) Option.none), (.mk (Option.some 15) (.bin .geq (.tmp 14)
  (.const (.int .i64 8))) Option.none)]) (.cond (.tmp 15) (.seq (.region [(.mk (Option.some 16) (.mv (.tmp 6)) Option.none), (.mk (Option.some 17) (.conv .u64 (.tmp 16))
  Option.none), (.mk (Option.some 7) (.alloc [(.int .u64 0)]) Option.none), (.mk Option.none (.store 1 (.tmp 7) (.tmp 17)) Option.none)]) (.seq (.region [(.mk (Option.some 18) (.mv
  (.tmp 6)) Option.none), (.mk (Option.some 19) (.call 141 [(.tmp 18)]) Option.none), (.mk (Option.some 8) (.mv (.tmp 19)) Option.none)]) (.seq (.region [(.mk (Option.some 20) (.mv
  (.tmp 1)) Option.none), (.mk (Option.some 21) (.mv (.tmp 6)) Option.none), (.mk (Option.some 22) (.bin .quo (.tmp 21) (.const (.int .i64 4))) Option.none), (.mk (Option.some 23)
  (.bin .mul (.tmp 22) (.const (.int .i64 2))) Option.none), (.mk (Option.some 24) (.bin .add (.tmp 20) (.tmp 23)) Option.none), (.mk (Option.some 25) (.bin .sub (.tmp 24) (.const
  (.int .i64 1))) Option.none), (.mk (Option.some 9) (.mv (.tmp 25)) Option.none)]) (.block 0 (.loop (.seq (.seq (.region [(.mk (Option.some 26) (.mv (.tmp 9)) Option.none), (.mk
  (Option.some 27) (.mv (.tmp 1)) Option.none), (.mk (Option.some 28) (.mv (.tmp 6)) Option.none), (.mk (Option.some 29) (.bin .quo (.tmp 28) (.const (.int .i64 4))) Option.none),
  (.mk (Option.some 30) (.bin .mul (.tmp 29) (.const (.int .i64 2))) Option.none), (.mk (Option.some 31) (.bin .add (.tmp 27) (.tmp 30)) Option.none), (.mk (Option.some 32) (.bin
  .add (.tmp 31) (.const (.int .i64 1))) Option.none), (.mk (Option.some 33) (.bin .leq (.tmp 26) (.tmp 32)) Option.none)]) (.cond (.tmp 33) .skip (.exit 0))) (.seq (.block 1 (.seq
  (.region [(.mk (Option.some 36) (.call 142 [(.tmp 7)]) Option.none), (.mk (Option.some 37) (.mv (.tmp 8)) Option.none), (.mk (Option.some 38) (.bin .sub (.tmp 37) (.const (.int
  .u64 1))) Option.none), (.mk (Option.some 39) (.bin .and (.tmp 36) (.tmp 38)) Option.none), (.mk (Option.some 40) (.conv .i64 (.tmp 39)) Option.none), (.mk (Option.some 10) (.mv
  (.tmp 40)) Option.none)]) (.seq (.seq (.region [(.mk (Option.some 41) (.mv (.tmp 10)) Option.none), (.mk (Option.some 42) (.mv (.tmp 6)) Option.none), (.mk (Option.some 43) (.bin
  .geq (.tmp 41) (.tmp 42)) Option.none)]) (.cond (.tmp 43) (.region [(.mk (Option.some 44) (.mv (.tmp 10)) Option.none), (.mk (Option.some 45) (.mv (.tmp 6)) Option.none), (.mk
  (Option.some 46) (.bin .sub (.tmp 44) (.tmp 45)) Option.none), (.mk (Option.some 10) (.mv (.tmp 46)) Option.none)]) .skip)) (.draws [((.mk (Option.some 47) (.mv (.tmp 0))
  Option.none), (0, 17)), ((.mk (Option.some 48) (.mv (.tmp 9)) Option.none), (0, 17)), ((.mk (Option.some 49) (.mv (.tmp 0)) Option.none), (0, 19)), ((.mk (Option.some 50) (.mv
  (.tmp 1)) Option.none), (0, 19)), ((.mk (Option.some 51) (.mv (.tmp 10)) Option.none), (0, 19)), ((.mk (Option.some 52) (.bin .add (.tmp 50) (.tmp 51)) Option.none), (0, 19)),
  ((.mk (Option.some 53) (.mv (.tmp 0)) Option.none), (0, 17)), ((.mk (Option.some 54) (.mv (.tmp 1)) Option.none), (0, 17)), ((.mk (Option.some 55) (.mv (.tmp 10)) Option.none),
  (0, 17)), ((.mk (Option.some 56) (.bin .add (.tmp 54) (.tmp 55)) Option.none), (0, 17)), ((.mk (Option.some 57) (.atSlice 1 (.tmp 53) (.tmp 56)) Option.none), (0, 17)), ((.mk
  (Option.some 58) (.load 1 Bool.false (.tmp 57)) Option.none), (0, 17)), ((.mk (Option.some 59) (.mv (.tmp 0)) Option.none), (0, 17)), ((.mk (Option.some 60) (.mv (.tmp 9))
  Option.none), (0, 17)), ((.mk (Option.some 61) (.atSlice 1 (.tmp 59) (.tmp 60)) Option.none), (0, 17)), ((.mk (Option.some 62) (.load 1 Bool.false (.tmp 61)) Option.none), (0,
  17)), ((.mk (Option.some 63) (.atSlice 1 (.tmp 47) (.tmp 48)) Option.none), (0, 17)), ((.mk Option.none (.store 1 (.tmp 63) (.tmp 58)) Option.none), (0, 19)), ((.mk (Option.some
  64) (.atSlice 1 (.tmp 49) (.tmp 52)) Option.none), (18, 19)), ((.mk Option.none (.store 1 (.tmp 64) (.tmp 62)) Option.none), (18, 20))])))) (.region [(.mk (Option.some 34) (.mv
  (.tmp 9)) Option.none), (.mk (Option.some 35) (.bin .add (.tmp 34) (.const (.int .i64 1))) Option.none), (.mk (Option.some 9) (.mv (.tmp 35)) Option.none)])))))))) .skip))) 65
  [])
def a131 : AFn :=
  (.mk (.seq (.region [(.mk (Option.some 6) (.mv (.const (.int .i64 0))) Option.none), (.mk (Option.some 7) (.mv (.const (.int .i64 0))) Option.none)]) (.seq (.region [(.mk
  (Option.some 13) (.mv (.tmp 2)) Option.none), (.mk (Option.some 14) (.mv (.tmp 1)) Option.none), (.mk (Option.some 15) (.bin .sub (.tmp 13) (.tmp 14)) Option.none), (.mk
  (Option.some 8) (.mv (.tmp 15)) Option.none)]) (.seq (.region [(.mk (Option.some 9) (.alloc [(.int .i64 0)]) Option.none)]) (.seq (.region [(.mk (Option.some 16) (.mv (.tmp 1))
  Option.none), (.mk (Option.some 17) (.mv (.tmp 8)) Option.none), (.mk (Option.some 18) (.bin .quo (.tmp 17) (.const (.int .i64 4))) Option.none), (.mk (Option.some 19) (.bin .mul
  (.tmp 18) (.const (.int .i64 1))) Option.none), (.mk (Option.some 20) (.bin .add (.tmp 16) (.tmp 19)) Option.none), (.mk (Option.some 10) (.mv (.tmp 20)) Option.none)]) (.seq
  (.region [(.mk (Option.some 21) (.mv (.tmp 1)) Option.none), (.mk (Option.some 22) (.mv (.tmp 8)) Option.none), (.mk (Option.some 23) (.bin .quo (.tmp 22) (.const (.int .i64 4)))
  Option.none), (.mk (Option.some 24) (.bin .mul (.tmp 23) (.const (.int .i64 2))) Option.none), (.mk (Option.some 25) (.bin .add (.tmp 21) (.tmp 24)) Option.none), (.mk
  (Option.some 11) (.mv (.tmp 25)) Option.none)]) (.seq (.region [(.mk (Option.some 26) (.mv (.tmp 1)) Option.none), (.mk (Option.some 27) (.mv (.tmp 8)) Option.none), (.mk
  (Option.some 28) (.bin .quo (.tmp 27) (.const (.int .i64 4))) Option.none), (.mk (Option.some 29) (.bin .mul (.tmp 28) (.const (.int .i64 3))) Option.none), (.mk (Option.some 30)
  (.bin .add (.tmp 26) (.tmp 29)) Option.none), (.mk (Option.some 12) (.mv (.tmp 30)) Option.none)]) (.seq (.seq (.region [(.mk (Option.some 31) (.mv (.tmp 8)) Option.none), (.mk
  (Option.some 32) (.bin .geq (.tmp 31) (.const (.int .i64 8))) Option.none)]) (.cond (.tmp 32) (.seq (.seq (.region [(.mk (Option.some 33) (.mv (.tmp 8)) Option.none), (.mk
  (Option.some 34) (.bin .geq (.tmp 33) (.const (.int .i64 50))) Option.none)]) (.cond (.tmp 34) (.seq (.region [(.mk (Option.some 35) (.mv (.tmp 0)) Option.none), (.mk
  (Option.some 36) (.mv (.tmp 10)) Option.none), (.mk (Option.some 37) (.call 147 [(.tmp 35), (.tmp 36), (.tmp 9)]) Option.none), (.mk (Option.some 10) (.mv (.tmp 37))
  Option.none)]) (.seq (.region [(.mk (Option.some 38) (.mv (.tmp 0)) Option.none), (.mk (Option.some 39) (.mv (.tmp 11)) Option.none), (.mk (Option.some 40) (.call 147 [(.tmp 38),
  (.tmp 39), (.tmp 9)]) Option.none), (.mk (Option.some 11) (.mv (.tmp 40)) Option.none)]) (.region [(.mk (Option.some 41) (.mv (.tmp 0)) Option.none), (.mk (Option.some 42) (.mv
  (.tmp 12)) Option.none), (.mk (Option.some 43) (.call 147 [(.tmp 41), (.tmp 42), (.tmp 9)]) Option.none), (.mk (Option.some 12) (.mv (.tmp 43)) Option.none)]))) .skip)) (.region
  [(.mk (Option.some 44) (.mv (.tmp 0)) Option.none), (.mk (Option.some 45) (.mv (.tmp 10)) Option.none), (.mk (Option.some 46) (.mv (.tmp 11)) Option.none), (.mk (Option.some 47)
  (.mv (.tmp 12)) Option.none), (.mk (Option.some 48) (.call 148 [(.tmp 44), (.tmp 45), (.tmp 46), (.tmp 47), (.tmp 9)]) Option.none), (.mk (Option.some 11) (.mv (.tmp 48))
  Option.none)])) .skip)) (.seq (.region [(.mk (Option.some 49) (.load 1 Bool.false (.tmp 9)) Option.none)]) (.block 0 (.seq (.region [(.mk (Option.some 52) (.bin .eql (.tmp 49)
  (.const (.int .i64 0))) Option.none), (.mk (Option.some 51) (.mv (.tmp 52)) Option.none)]) (.cond (.tmp 51) (.seq (.region [(.mk (Option.some 53) (.mv (.tmp 11)) Option.none),
  (.mk (Option.some 6) (.mv (.tmp 53)) Option.none), (.mk (Option.some 7) (.mv (.const (.int .i64 1))) Option.none)]) .ret) (.seq (.region [(.mk (Option.some 55) (.bin .eql (.tmp
  49) (.const (.int .i64 12))) Option.none), (.mk (Option.some 54) (.mv (.tmp 55)) Option.none)]) (.cond (.tmp 54) (.seq (.region [(.mk (Option.some 56) (.mv (.tmp 11))
  Option.none), (.mk (Option.some 6) (.mv (.tmp 56)) Option.none), (.mk (Option.some 7) (.mv (.const (.int .i64 2))) Option.none)]) .ret) (.seq (.region [(.mk (Option.some 50) (.mv
  (.tmp 11)) Option.none), (.mk (Option.some 6) (.mv (.tmp 50)) Option.none), (.mk (Option.some 7) (.mv (.const (.int .i64 0))) Option.none)]) .ret)))))))))))))) 57 [(.tmp 6),
  (.tmp 7)])
def a132 : AFn :=
  (.mk (.seq (.region [(.mk (Option.some 8) (.mv (.tmp 1)) Option.none), (.mk (Option.some 6) (.mv (.tmp 8)) Option.none)]) (.seq (.region [(.mk (Option.some 9) (.mv (.tmp 2))
  Option.none), (.mk (Option.some 10) (.bin .sub (.tmp 9) (.const (.int .i64 1))) Option.none), (.mk (Option.some 7) (.mv (.tmp 10)) Option.none)]) (.block 0 (.loop (.seq (.seq
  (.region [(.mk (Option.some 11) (.mv (.tmp 6)) Option.none), (.mk (Option.some 12) (.mv (.tmp 7)) Option.none), (.mk (Option.some 13) (.bin .lss (.tmp 11) (.tmp 12))
  Option.none)]) (.cond (.tmp 13) .skip (.exit 0))) (.block 1 (.seq (.draws [((.mk (Option.some 14) (.mv (.tmp 0)) Option.none), (0, 13)), ((.mk (Option.some 15) (.mv (.tmp 6))
  Option.none), (0, 13)), ((.mk (Option.some 16) (.mv (.tmp 0)) Option.none), (0, 15)), ((.mk (Option.some 17) (.mv (.tmp 7)) Option.none), (0, 15)), ((.mk (Option.some 18) (.mv
  (.tmp 0)) Option.none), (0, 13)), ((.mk (Option.some 19) (.mv (.tmp 7)) Option.none), (0, 13)), ((.mk (Option.some 20) (.atSlice 1 (.tmp 18) (.tmp 19)) Option.none), (0, 13)),
  ((.mk (Option.some 21) (.load 1 Bool.false (.tmp 20)) Option.none), (0, 13)), ((.mk (Option.some 22) (.mv (.tmp 0)) Option.none), (0, 13)), ((.mk (Option.some 23) (.mv (.tmp 6))
  Option.none), (0, 13)), ((.mk (Option.some 24) (.atSlice 1 (.tmp 22) (.tmp 23)) Option.none), (0, 13)), ((.mk (Option.some 25) (.load 1 Bool.false (.tmp 24)) Option.none), (0,
  13)), ((.mk (Option.some 26) (.atSlice 1 (.tmp 14) (.tmp 15)) Option.none), (0, 13)), ((.mk Option.none (.store 1 (.tmp 26) (.tmp 21)) Option.none), (0, 15)), ((.mk (Option.some
  27) (.atSlice 1 (.tmp 16) (.tmp 17)) Option.none), (14, 15)), ((.mk Option.none (.store 1 (.tmp 27) (.tmp 25)) Option.none), (14, 16))]) (.seq (.region [(.mk (Option.some 28)
  (.mv (.tmp 6)) Option.none), (.mk (Option.some 29) (.bin .add (.tmp 28) (.const (.int .i64 1))) Option.none), (.mk (Option.some 6) (.mv (.tmp 29)) Option.none)]) (.region [(.mk
  (Option.some 30) (.mv (.tmp 7)) Option.none), (.mk (Option.some 31) (.bin .sub (.tmp 30) (.const (.int .i64 1))) Option.none), (.mk (Option.some 7) (.mv (.tmp 31))
  Option.none)]))))))))) 32 [])
def a133 : AFn :=
  (.mk (.seq (.region [(.mk (Option.some 6) (.mv (.const (.bool Bool.false))) Option.none)]) (.seq (.region [(.mk (Option.some 11) (.mv (.tmp 1)) Option.none), (.mk (Option.some 12)
  (.bin .add (.tmp 11) (.const (.int .i64 1))) Option.none), (.mk (Option.some 7) (.mv (.tmp 12)) Option.none)]) (.seq (.seq (.region [(.mk (Option.some 8) (.mv (.const (.int .i64
  0))) Option.none)]) (.block 0 (.loop (.seq (.seq (.region [(.mk (Option.some 13) (.mv (.tmp 8)) Option.none), (.mk (Option.some 14) (.bin .lss (.tmp 13) (.const (.int .i64 5)))
  Option.none)]) (.cond (.tmp 14) .skip (.exit 0))) (.seq (.block 1 (.seq (.block 2 (.loop (.seq (.seq (.draws [((.mk (Option.some 17) (.mv (.tmp 7)) Option.none), (0, 13)), ((.mk
  (Option.some 18) (.mv (.tmp 2)) Option.none), (0, 13)), ((.mk (Option.some 19) (.bin .lss (.tmp 17) (.tmp 18)) Option.none), (0, 13)), ((.mk (Option.some 20) (.mv (.tmp 19))
  Option.none), (0, 13)), ((.mk (Option.some 21) (.mv (.tmp 0)) (Option.some (20, Bool.true))), (0, 13)), ((.mk (Option.some 22) (.mv (.tmp 7)) (Option.some (20, Bool.true))), (0,
  13)), ((.mk (Option.some 23) (.atSlice 1 (.tmp 21) (.tmp 22)) (Option.some (20, Bool.true))), (0, 13)), ((.mk (Option.some 24) (.load 1 Bool.false (.tmp 23)) (Option.some (20,
  Bool.true))), (0, 13)), ((.mk (Option.some 25) (.mv (.tmp 0)) (Option.some (20, Bool.true))), (0, 13)), ((.mk (Option.some 26) (.mv (.tmp 7)) (Option.some (20, Bool.true))), (0,
  13)), ((.mk (Option.some 27) (.bin .sub (.tmp 26) (.const (.int .i64 1))) (Option.some (20, Bool.true))), (0, 13)), ((.mk (Option.some 28) (.atSlice 1 (.tmp 25) (.tmp 27))
  (Option.some (20, Bool.true))), (0, 13)), ((.mk (Option.some 29) (.load 1 Bool.false (.tmp 28)) (Option.some (20, Bool.true))), (0, 13)), ((.mk (Option.some 30) (.call 134 [(.tmp
  24), (.tmp 29)]) (Option.some (20, Bool.true))), (0, 16)), ((.mk (Option.some 31) (.un .not (.tmp 30)) (Option.some (20, Bool.true))), (14, 16)), ((.mk (Option.some 32) (.pick
  (.tmp 20) (.tmp 31) (.const (.bool Bool.false))) Option.none), (14, 16))]) (.cond (.tmp 32) .skip (.exit 2))) (.block 3 (.region [(.mk (Option.some 33) (.mv (.tmp 7))
  Option.none), (.mk (Option.some 34) (.bin .add (.tmp 33) (.const (.int .i64 1))) Option.none), (.mk (Option.some 7) (.mv (.tmp 34)) Option.none)]))))) (.seq (.seq (.region [(.mk
  (Option.some 35) (.mv (.tmp 7)) Option.none), (.mk (Option.some 36) (.mv (.tmp 2)) Option.none), (.mk (Option.some 37) (.bin .eql (.tmp 35) (.tmp 36)) Option.none)]) (.cond (.tmp
  37) (.seq (.region [(.mk (Option.some 6) (.mv (.const (.bool Bool.true))) Option.none)]) .ret) .skip)) (.seq (.seq (.region [(.mk (Option.some 38) (.mv (.tmp 2)) Option.none),
  (.mk (Option.some 39) (.mv (.tmp 1)) Option.none), (.mk (Option.some 40) (.bin .sub (.tmp 38) (.tmp 39)) Option.none), (.mk (Option.some 41) (.bin .lss (.tmp 40) (.const (.int
  .i64 50))) Option.none)]) (.cond (.tmp 41) (.seq (.region [(.mk (Option.some 6) (.mv (.const (.bool Bool.false))) Option.none)]) .ret) .skip)) (.seq (.draws [((.mk (Option.some
  42) (.mv (.tmp 0)) Option.none), (0, 15)), ((.mk (Option.some 43) (.mv (.tmp 7)) Option.none), (0, 15)), ((.mk (Option.some 44) (.mv (.tmp 0)) Option.none), (0, 17)), ((.mk
  (Option.some 45) (.mv (.tmp 7)) Option.none), (0, 17)), ((.mk (Option.some 46) (.bin .sub (.tmp 45) (.const (.int .i64 1))) Option.none), (0, 17)), ((.mk (Option.some 47) (.mv
  (.tmp 0)) Option.none), (0, 15)), ((.mk (Option.some 48) (.mv (.tmp 7)) Option.none), (0, 15)), ((.mk (Option.some 49) (.bin .sub (.tmp 48) (.const (.int .i64 1))) Option.none),
  (0, 15)), ((.mk (Option.some 50) (.atSlice 1 (.tmp 47) (.tmp 49)) Option.none), (0, 15)), ((.mk (Option.some 51) (.load 1 Bool.false (.tmp 50)) Option.none), (0, 15)), ((.mk
  (Option.some 52) (.mv (.tmp 0)) Option.none), (0, 15)), ((.mk (Option.some 53) (.mv (.tmp 7)) Option.none), (0, 15)), ((.mk (Option.some 54) (.atSlice 1 (.tmp 52) (.tmp 53))
  Option.none), (0, 15)), ((.mk (Option.some 55) (.load 1 Bool.false (.tmp 54)) Option.none), (0, 15)), ((.mk (Option.some 56) (.atSlice 1 (.tmp 42) (.tmp 43)) Option.none), (0,
  15)), ((.mk Option.none (.store 1 (.tmp 56) (.tmp 51)) Option.none), (0, 17)), ((.mk (Option.some 57) (.atSlice 1 (.tmp 44) (.tmp 46)) Option.none), (16, 17)), ((.mk Option.none
  (.store 1 (.tmp 57) (.tmp 55)) Option.none), (16, 18))]) (.seq (.seq (.region [(.mk (Option.some 58) (.mv (.tmp 7)) Option.none), (.mk (Option.some 59) (.mv (.tmp 1))
  Option.none), (.mk (Option.some 60) (.bin .sub (.tmp 58) (.tmp 59)) Option.none), (.mk (Option.some 61) (.bin .geq (.tmp 60) (.const (.int .i64 2))) Option.none)]) (.cond (.tmp
  61) (.seq (.region [(.mk (Option.some 62) (.mv (.tmp 7)) Option.none), (.mk (Option.some 63) (.bin .sub (.tmp 62) (.const (.int .i64 1))) Option.none), (.mk (Option.some 9) (.mv
  (.tmp 63)) Option.none)]) (.block 4 (.loop (.seq (.seq (.region [(.mk (Option.some 64) (.mv (.tmp 9)) Option.none), (.mk (Option.some 65) (.bin .geq (.tmp 64) (.const (.int .i64
  1))) Option.none)]) (.cond (.tmp 65) .skip (.exit 4))) (.seq (.block 5 (.seq (.seq (.draws [((.mk (Option.some 68) (.mv (.tmp 0)) Option.none), (0, 9)), ((.mk (Option.some 69)
  (.mv (.tmp 9)) Option.none), (0, 9)), ((.mk (Option.some 70) (.atSlice 1 (.tmp 68) (.tmp 69)) Option.none), (0, 9)), ((.mk (Option.some 71) (.load 1 Bool.false (.tmp 70))
  Option.none), (0, 9)), ((.mk (Option.some 72) (.mv (.tmp 0)) Option.none), (0, 9)), ((.mk (Option.some 73) (.mv (.tmp 9)) Option.none), (0, 9)), ((.mk (Option.some 74) (.bin .sub
  (.tmp 73) (.const (.int .i64 1))) Option.none), (0, 9)), ((.mk (Option.some 75) (.atSlice 1 (.tmp 72) (.tmp 74)) Option.none), (0, 9)), ((.mk (Option.some 76) (.load 1 Bool.false
  (.tmp 75)) Option.none), (0, 9)), ((.mk (Option.some 77) (.call 134 [(.tmp 71), (.tmp 76)]) Option.none), (0, 11)), ((.mk (Option.some 78) (.un .not (.tmp 77)) Option.none), (10,
  11))]) (.cond (.tmp 78) (.exit 4) .skip)) (.draws [((.mk (Option.some 79) (.mv (.tmp 0)) Option.none), (0, 15)), ((.mk (Option.some 80) (.mv (.tmp 9)) Option.none), (0, 15)),
  ((.mk (Option.some 81) (.mv (.tmp 0)) Option.none), (0, 17)), ((.mk (Option.some 82) (.mv (.tmp 9)) Option.none), (0, 17)), ((.mk (Option.some 83) (.bin .sub (.tmp 82) (.const
  (.int .i64 1))) Option.none), (0, 17)), ((.mk (Option.some 84) (.mv (.tmp 0)) Option.none), (0, 15)), ((.mk (Option.some 85) (.mv (.tmp 9)) Option.none), (0, 15)), ((.mk
  (Option.some 86) (.bin .sub (.tmp 85) (.const (.int .i64 1))) Option.none), (0, 15)), ((.mk (Option.some 87) (.atSlice 1 (.tmp 84) (.tmp 86)) Option.none), (0, 15)), ((.mk
  (Option.some 88) (.load 1 Bool.false (.tmp 87)) Option.none), (0, 15)), ((.mk (Option.some 89) (.mv (.tmp 0)) Option.none), (0, 15)), ((.mk (Option.some 90) (.mv (.tmp 9))
  Option.none), (0, 15)), ((.mk (Option.some 91) (.atSlice 1 (.tmp 89) (.tmp 90)) Option.none), (0, 15)), ((.mk (Option.some 92) (.load 1 Bool.false (.tmp 91)) Option.none), (0,
  15)), ((.mk (Option.some 93) (.atSlice 1 (.tmp 79) (.tmp 80)) Option.none), (0, 15)), ((.mk Option.none (.store 1 (.tmp 93) (.tmp 88)) Option.none), (0, 17)), ((.mk (Option.some
  94) (.atSlice 1 (.tmp 81) (.tmp 83)) Option.none), (16, 17)), ((.mk Option.none (.store 1 (.tmp 94) (.tmp 92)) Option.none), (16, 18))]))) (.region [(.mk (Option.some 66) (.mv
  (.tmp 9)) Option.none), (.mk (Option.some 67) (.bin .sub (.tmp 66) (.const (.int .i64 1))) Option.none), (.mk (Option.some 9) (.mv (.tmp 67)) Option.none)])))))) .skip)) (.seq
  (.region [(.mk (Option.some 95) (.mv (.tmp 2)) Option.none), (.mk (Option.some 96) (.mv (.tmp 7)) Option.none), (.mk (Option.some 97) (.bin .sub (.tmp 95) (.tmp 96))
  Option.none), (.mk (Option.some 98) (.bin .geq (.tmp 97) (.const (.int .i64 2))) Option.none)]) (.cond (.tmp 98) (.seq (.region [(.mk (Option.some 99) (.mv (.tmp 7))
  Option.none), (.mk (Option.some 100) (.bin .add (.tmp 99) (.const (.int .i64 1))) Option.none), (.mk (Option.some 10) (.mv (.tmp 100)) Option.none)]) (.block 6 (.loop (.seq (.seq
  (.region [(.mk (Option.some 101) (.mv (.tmp 10)) Option.none), (.mk (Option.some 102) (.mv (.tmp 2)) Option.none), (.mk (Option.some 103) (.bin .lss (.tmp 101) (.tmp 102))
  Option.none)]) (.cond (.tmp 103) .skip (.exit 6))) (.seq (.block 7 (.seq (.seq (.draws [((.mk (Option.some 106) (.mv (.tmp 0)) Option.none), (0, 9)), ((.mk (Option.some 107) (.mv
  (.tmp 10)) Option.none), (0, 9)), ((.mk (Option.some 108) (.atSlice 1 (.tmp 106) (.tmp 107)) Option.none), (0, 9)), ((.mk (Option.some 109) (.load 1 Bool.false (.tmp 108))
  Option.none), (0, 9)), ((.mk (Option.some 110) (.mv (.tmp 0)) Option.none), (0, 9)), ((.mk (Option.some 111) (.mv (.tmp 10)) Option.none), (0, 9)), ((.mk (Option.some 112) (.bin
  .sub (.tmp 111) (.const (.int .i64 1))) Option.none), (0, 9)), ((.mk (Option.some 113) (.atSlice 1 (.tmp 110) (.tmp 112)) Option.none), (0, 9)), ((.mk (Option.some 114) (.load 1
  Bool.false (.tmp 113)) Option.none), (0, 9)), ((.mk (Option.some 115) (.call 134 [(.tmp 109), (.tmp 114)]) Option.none), (0, 11)), ((.mk (Option.some 116) (.un .not (.tmp 115))
  Option.none), (10, 11))]) (.cond (.tmp 116) (.exit 6) .skip)) (.draws [((.mk (Option.some 117) (.mv (.tmp 0)) Option.none), (0, 15)), ((.mk (Option.some 118) (.mv (.tmp 10))
  Option.none), (0, 15)), ((.mk (Option.some 119) (.mv (.tmp 0)) Option.none), (0, 17)), ((.mk (Option.some 120) (.mv (.tmp 10)) Option.none), (0, 17)), ((.mk (Option.some 121)
  (.bin .sub (.tmp 120) (.const (.int .i64 1))) Option.none), (0, 17)), ((.mk (Option.some 122) (.mv (.tmp 0)) Option.none), (0, 15)), ((.mk (Option.some 123) (.mv (.tmp 10))
  Option.none), (0, 15)), ((.mk (Option.some 124) (.bin .sub (.tmp 123) (.const (.int .i64 1))) Option.none), (0, 15)), ((.mk (Option.some 125) (.atSlice 1 (.tmp 122) (.tmp 124))
  Option.none), (0, 15)), ((.mk (Option.some 126) (.load 1 Bool.false (.tmp 125)) Option.none), (0, 15)), ((.mk (Option.some 127) (.mv (.tmp 0)) Option.none), (0, 15)), ((.mk
  (Option.some 128) (.mv (.tmp 10)) Option.none), (0, 15)), ((.mk (Option.some 129) (.atSlice 1 (.tmp 127) (.tmp 128)) Option.none), (0, 15)), ((.mk (Option.some 130) (.load 1
  Bool.false (.tmp 129)) Option.none), (0, 15)), ((.mk (Option.some 131) (.atSlice 1 (.tmp 117) (.tmp 118)) Option.none), (0, 15)), ((.mk Option.none (.store 1 (.tmp 131) (.tmp
  126)) Option.none), (0, 17)), ((.mk (Option.some 132) (.atSlice 1 (.tmp 119) (.tmp 121)) Option.none), (16, 17)), ((.mk Option.none (.store 1 (.tmp 132) (.tmp 130)) Option.none),
  (16, 18))]))) (.region [(.mk (Option.some 104) (.mv (.tmp 10)) Option.none), (.mk (Option.some 105) (.bin .add (.tmp 104) (.const (.int .i64 1))) Option.none), (.mk (Option.some
  10) (.mv (.tmp 105)) Option.none)])))))) .skip)))))))) (.region [(.mk (Option.some 15) (.mv (.tmp 8)) Option.none), (.mk (Option.some 16) (.bin .add (.tmp 15) (.const (.int .i64
  1))) Option.none), (.mk (Option.some 8) (.mv (.tmp 16)) Option.none)])))))) (.seq (.region [(.mk (Option.some 6) (.mv (.const (.bool Bool.false))) Option.none)]) .ret)))) 133
  [(.tmp 6)])
def a134 : AFn :=
  (.mk (.seq (.region [(.mk (Option.some 4) (.mv (.const (.bool Bool.false))) Option.none)]) (.seq (.region [(.mk (Option.some 5) (.mv (.tmp 0)) Option.none), (.mk (Option.some 6)
  (.call 149 [(.tmp 5)]) Option.none), (.mk (Option.some 7) (.mv (.tmp 6)) Option.none), (.mk (Option.some 8) (.mv (.tmp 1)) (Option.some (7, Bool.true))), (.mk (Option.some 9)
  (.call 149 [(.tmp 8)]) (Option.some (7, Bool.true))), (.mk (Option.some 10) (.un .not (.tmp 9)) (Option.some (7, Bool.true))), (.mk (Option.some 11) (.pick (.tmp 7) (.tmp 10)
  (.const (.bool Bool.false))) Option.none), (.mk (Option.some 12) (.mv (.tmp 11)) Option.none), (.mk (Option.some 13) (.mv (.tmp 0)) (Option.some (12, Bool.false))), (.mk
  (Option.some 14) (.mv (.tmp 1)) (Option.some (12, Bool.false))), (.mk (Option.some 15) (.bin .lss (.tmp 13) (.tmp 14)) (Option.some (12, Bool.false))), (.mk (Option.some 16)
  (.pick (.tmp 12) (.const (.bool Bool.true)) (.tmp 15)) Option.none), (.mk (Option.some 4) (.mv (.tmp 16)) Option.none)]) .ret)) 17 [(.tmp 4)])
def a135 : AFn :=
  (.mk (.seq (.region [(.mk (Option.some 8) (.mv (.const (.int .i64 0))) Option.none)]) (.seq (.draws [((.mk (Option.some 11) (.mv (.tmp 0)) Option.none), (0, 13)), ((.mk
  (Option.some 12) (.mv (.tmp 1)) Option.none), (0, 13)), ((.mk (Option.some 13) (.mv (.tmp 0)) Option.none), (0, 15)), ((.mk (Option.some 14) (.mv (.tmp 3)) Option.none), (0,
  15)), ((.mk (Option.some 15) (.mv (.tmp 0)) Option.none), (0, 13)), ((.mk (Option.some 16) (.mv (.tmp 3)) Option.none), (0, 13)), ((.mk (Option.some 17) (.atSlice 1 (.tmp 15)
  (.tmp 16)) Option.none), (0, 13)), ((.mk (Option.some 18) (.load 1 Bool.false (.tmp 17)) Option.none), (0, 13)), ((.mk (Option.some 19) (.mv (.tmp 0)) Option.none), (0, 13)),
  ((.mk (Option.some 20) (.mv (.tmp 1)) Option.none), (0, 13)), ((.mk (Option.some 21) (.atSlice 1 (.tmp 19) (.tmp 20)) Option.none), (0, 13)), ((.mk (Option.some 22) (.load 1
  Bool.false (.tmp 21)) Option.none), (0, 13)), ((.mk (Option.some 23) (.atSlice 1 (.tmp 11) (.tmp 12)) Option.none), (0, 13)), ((.mk Option.none (.store 1 (.tmp 23) (.tmp 18))
  Option.none), (0, 15)), ((.mk (Option.some 24) (.atSlice 1 (.tmp 13) (.tmp 14)) Option.none), (14, 15)), ((.mk Option.none (.store 1 (.tmp 24) (.tmp 22)) Option.none), (14,
  16))]) (.seq (.region [(.mk (Option.some 25) (.mv (.tmp 1)) Option.none), (.mk (Option.some 26) (.bin .add (.tmp 25) (.const (.int .i64 1))) Option.none), (.mk (Option.some 27)
  (.mv (.tmp 2)) Option.none), (.mk (Option.some 28) (.bin .sub (.tmp 27) (.const (.int .i64 1))) Option.none), (.mk (Option.some 9) (.mv (.tmp 26)) Option.none), (.mk (Option.some
  10) (.mv (.tmp 28)) Option.none)]) (.seq (.block 0 (.loop (.block 1 (.seq (.block 2 (.loop (.seq (.seq (.draws [((.mk (Option.some 29) (.mv (.tmp 9)) Option.none), (0, 12)),
  ((.mk (Option.some 30) (.mv (.tmp 10)) Option.none), (0, 12)), ((.mk (Option.some 31) (.bin .leq (.tmp 29) (.tmp 30)) Option.none), (0, 12)), ((.mk (Option.some 32) (.mv (.tmp
  31)) Option.none), (0, 12)), ((.mk (Option.some 33) (.mv (.tmp 0)) (Option.some (32, Bool.true))), (0, 12)), ((.mk (Option.some 34) (.mv (.tmp 1)) (Option.some (32, Bool.true))),
  (0, 12)), ((.mk (Option.some 35) (.atSlice 1 (.tmp 33) (.tmp 34)) (Option.some (32, Bool.true))), (0, 12)), ((.mk (Option.some 36) (.load 1 Bool.false (.tmp 35)) (Option.some
  (32, Bool.true))), (0, 12)), ((.mk (Option.some 37) (.mv (.tmp 0)) (Option.some (32, Bool.true))), (0, 12)), ((.mk (Option.some 38) (.mv (.tmp 9)) (Option.some (32, Bool.true))),
  (0, 12)), ((.mk (Option.some 39) (.atSlice 1 (.tmp 37) (.tmp 38)) (Option.some (32, Bool.true))), (0, 12)), ((.mk (Option.some 40) (.load 1 Bool.false (.tmp 39)) (Option.some
  (32, Bool.true))), (0, 12)), ((.mk (Option.some 41) (.call 134 [(.tmp 36), (.tmp 40)]) (Option.some (32, Bool.true))), (0, 15)), ((.mk (Option.some 42) (.un .not (.tmp 41))
  (Option.some (32, Bool.true))), (13, 15)), ((.mk (Option.some 43) (.pick (.tmp 32) (.tmp 42) (.const (.bool Bool.false))) Option.none), (13, 15))]) (.cond (.tmp 43) .skip (.exit
  2))) (.block 3 (.region [(.mk (Option.some 44) (.mv (.tmp 9)) Option.none), (.mk (Option.some 45) (.bin .add (.tmp 44) (.const (.int .i64 1))) Option.none), (.mk (Option.some 9)
  (.mv (.tmp 45)) Option.none)]))))) (.seq (.block 4 (.loop (.seq (.seq (.draws [((.mk (Option.some 46) (.mv (.tmp 9)) Option.none), (0, 12)), ((.mk (Option.some 47) (.mv (.tmp
  10)) Option.none), (0, 12)), ((.mk (Option.some 48) (.bin .leq (.tmp 46) (.tmp 47)) Option.none), (0, 12)), ((.mk (Option.some 49) (.mv (.tmp 48)) Option.none), (0, 12)), ((.mk
  (Option.some 50) (.mv (.tmp 0)) (Option.some (49, Bool.true))), (0, 12)), ((.mk (Option.some 51) (.mv (.tmp 1)) (Option.some (49, Bool.true))), (0, 12)), ((.mk (Option.some 52)
  (.atSlice 1 (.tmp 50) (.tmp 51)) (Option.some (49, Bool.true))), (0, 12)), ((.mk (Option.some 53) (.load 1 Bool.false (.tmp 52)) (Option.some (49, Bool.true))), (0, 12)), ((.mk
  (Option.some 54) (.mv (.tmp 0)) (Option.some (49, Bool.true))), (0, 12)), ((.mk (Option.some 55) (.mv (.tmp 10)) (Option.some (49, Bool.true))), (0, 12)), ((.mk (Option.some 56)
  (.atSlice 1 (.tmp 54) (.tmp 55)) (Option.some (49, Bool.true))), (0, 12)), ((.mk (Option.some 57) (.load 1 Bool.false (.tmp 56)) (Option.some (49, Bool.true))), (0, 12)), ((.mk
  (Option.some 58) (.call 134 [(.tmp 53), (.tmp 57)]) (Option.some (49, Bool.true))), (0, 14)), ((.mk (Option.some 59) (.pick (.tmp 49) (.tmp 58) (.const (.bool Bool.false)))
  Option.none), (13, 14))]) (.cond (.tmp 59) .skip (.exit 4))) (.block 5 (.region [(.mk (Option.some 60) (.mv (.tmp 10)) Option.none), (.mk (Option.some 61) (.bin .sub (.tmp 60)
  (.const (.int .i64 1))) Option.none), (.mk (Option.some 10) (.mv (.tmp 61)) Option.none)]))))) (.seq (.seq (.region [(.mk (Option.some 62) (.mv (.tmp 9)) Option.none), (.mk
  (Option.some 63) (.mv (.tmp 10)) Option.none), (.mk (Option.some 64) (.bin .gtr (.tmp 62) (.tmp 63)) Option.none)]) (.cond (.tmp 64) (.exit 0) .skip)) (.seq (.draws [((.mk
  (Option.some 65) (.mv (.tmp 0)) Option.none), (0, 13)), ((.mk (Option.some 66) (.mv (.tmp 9)) Option.none), (0, 13)), ((.mk (Option.some 67) (.mv (.tmp 0)) Option.none), (0,
  15)), ((.mk (Option.some 68) (.mv (.tmp 10)) Option.none), (0, 15)), ((.mk (Option.some 69) (.mv (.tmp 0)) Option.none), (0, 13)), ((.mk (Option.some 70) (.mv (.tmp 10))
  Option.none), (0, 13)), ((.mk (Option.some 71) (.atSlice 1 (.tmp 69) (.tmp 70)) Option.none), (0, 13)), ((.mk (Option.some 72) (.load 1 Bool.false (.tmp 71)) Option.none), (0,
  13)), ((.mk (Option.some 73) (.mv (.tmp 0)) Option.none), (0, 13)), ((.mk (Option.some 74) (.mv (.tmp 9)) Option.none), (0, 13)), ((.mk (Option.some 75) (.atSlice 1 (.tmp 73)
  (.tmp 74)) Option.none), (0, 13)), ((.mk (Option.some 76) (.load 1 Bool.false (.tmp 75)) Option.none), (0, 13)), ((.mk (Option.some 77) (.atSlice 1 (.tmp 65) (.tmp 66))
  Option.none), (0, 13)), ((.mk Option.none (.store 1 (.tmp 77) (.tmp 72)) Option.none), (0, 15)), ((.mk (Option.some 78) (.atSlice 1 (.tmp 67) (.tmp 68)) Option.none), (14, 15)),
  ((.mk Option.none (.store 1 (.tmp 78) (.tmp 76)) Option.none), (14, 16))]) (.seq (.region [(.mk (Option.some 79) (.mv (.tmp 9)) Option.none), (.mk (Option.some 80) (.bin .add
  (.tmp 79) (.const (.int .i64 1))) Option.none), (.mk (Option.some 9) (.mv (.tmp 80)) Option.none)]) (.region [(.mk (Option.some 81) (.mv (.tmp 10)) Option.none), (.mk
  (Option.some 82) (.bin .sub (.tmp 81) (.const (.int .i64 1))) Option.none), (.mk (Option.some 10) (.mv (.tmp 82)) Option.none)]))))))))) (.seq (.region [(.mk (Option.some 83)
  (.mv (.tmp 9)) Option.none), (.mk (Option.some 8) (.mv (.tmp 83)) Option.none)]) .ret))))) 84 [(.tmp 8)])
def a136 : AFn :=
  (.mk (.seq (.region [(.mk (Option.some 8) (.mv (.const (.int .i64 0))) Option.none), (.mk (Option.some 9) (.mv (.const (.bool Bool.false))) Option.none)]) (.seq (.draws [((.mk
  (Option.some 12) (.mv (.tmp 0)) Option.none), (0, 13)), ((.mk (Option.some 13) (.mv (.tmp 1)) Option.none), (0, 13)), ((.mk (Option.some 14) (.mv (.tmp 0)) Option.none), (0,
  15)), ((.mk (Option.some 15) (.mv (.tmp 3)) Option.none), (0, 15)), ((.mk (Option.some 16) (.mv (.tmp 0)) Option.none), (0, 13)), ((.mk (Option.some 17) (.mv (.tmp 3))
  Option.none), (0, 13)), ((.mk (Option.some 18) (.atSlice 1 (.tmp 16) (.tmp 17)) Option.none), (0, 13)), ((.mk (Option.some 19) (.load 1 Bool.false (.tmp 18)) Option.none), (0,
  13)), ((.mk (Option.some 20) (.mv (.tmp 0)) Option.none), (0, 13)), ((.mk (Option.some 21) (.mv (.tmp 1)) Option.none), (0, 13)), ((.mk (Option.some 22) (.atSlice 1 (.tmp 20)
  (.tmp 21)) Option.none), (0, 13)), ((.mk (Option.some 23) (.load 1 Bool.false (.tmp 22)) Option.none), (0, 13)), ((.mk (Option.some 24) (.atSlice 1 (.tmp 12) (.tmp 13))
  Option.none), (0, 13)), ((.mk Option.none (.store 1 (.tmp 24) (.tmp 19)) Option.none), (0, 15)), ((.mk (Option.some 25) (.atSlice 1 (.tmp 14) (.tmp 15)) Option.none), (14, 15)),
  ((.mk Option.none (.store 1 (.tmp 25) (.tmp 23)) Option.none), (14, 16))]) (.seq (.region [(.mk (Option.some 26) (.mv (.tmp 1)) Option.none), (.mk (Option.some 27) (.bin .add
  (.tmp 26) (.const (.int .i64 1))) Option.none), (.mk (Option.some 28) (.mv (.tmp 2)) Option.none), (.mk (Option.some 29) (.bin .sub (.tmp 28) (.const (.int .i64 1)))
  Option.none), (.mk (Option.some 10) (.mv (.tmp 27)) Option.none), (.mk (Option.some 11) (.mv (.tmp 29)) Option.none)]) (.seq (.block 0 (.loop (.seq (.seq (.draws [((.mk
  (Option.some 30) (.mv (.tmp 10)) Option.none), (0, 12)), ((.mk (Option.some 31) (.mv (.tmp 11)) Option.none), (0, 12)), ((.mk (Option.some 32) (.bin .leq (.tmp 30) (.tmp 31))
  Option.none), (0, 12)), ((.mk (Option.some 33) (.mv (.tmp 32)) Option.none), (0, 12)), ((.mk (Option.some 34) (.mv (.tmp 0)) (Option.some (33, Bool.true))), (0, 12)), ((.mk
  (Option.some 35) (.mv (.tmp 10)) (Option.some (33, Bool.true))), (0, 12)), ((.mk (Option.some 36) (.atSlice 1 (.tmp 34) (.tmp 35)) (Option.some (33, Bool.true))), (0, 12)), ((.mk
  (Option.some 37) (.load 1 Bool.false (.tmp 36)) (Option.some (33, Bool.true))), (0, 12)), ((.mk (Option.some 38) (.mv (.tmp 0)) (Option.some (33, Bool.true))), (0, 12)), ((.mk
  (Option.some 39) (.mv (.tmp 1)) (Option.some (33, Bool.true))), (0, 12)), ((.mk (Option.some 40) (.atSlice 1 (.tmp 38) (.tmp 39)) (Option.some (33, Bool.true))), (0, 12)), ((.mk
  (Option.some 41) (.load 1 Bool.false (.tmp 40)) (Option.some (33, Bool.true))), (0, 12)), ((.mk (Option.some 42) (.call 134 [(.tmp 37), (.tmp 41)]) (Option.some (33,
  Bool.true))), (0, 14)), ((.mk (Option.some 43) (.pick (.tmp 33) (.tmp 42) (.const (.bool Bool.false))) Option.none), (13, 14))]) (.cond (.tmp 43) .skip (.exit 0))) (.block 1
  (.region [(.mk (Option.some 44) (.mv (.tmp 10)) Option.none), (.mk (Option.some 45) (.bin .add (.tmp 44) (.const (.int .i64 1))) Option.none), (.mk (Option.some 10) (.mv (.tmp
  45)) Option.none)]))))) (.seq (.block 2 (.loop (.seq (.seq (.draws [((.mk (Option.some 46) (.mv (.tmp 10)) Option.none), (0, 12)), ((.mk (Option.some 47) (.mv (.tmp 11))
  Option.none), (0, 12)), ((.mk (Option.some 48) (.bin .leq (.tmp 46) (.tmp 47)) Option.none), (0, 12)), ((.mk (Option.some 49) (.mv (.tmp 48)) Option.none), (0, 12)), ((.mk
  (Option.some 50) (.mv (.tmp 0)) (Option.some (49, Bool.true))), (0, 12)), ((.mk (Option.some 51) (.mv (.tmp 11)) (Option.some (49, Bool.true))), (0, 12)), ((.mk (Option.some 52)
  (.atSlice 1 (.tmp 50) (.tmp 51)) (Option.some (49, Bool.true))), (0, 12)), ((.mk (Option.some 53) (.load 1 Bool.false (.tmp 52)) (Option.some (49, Bool.true))), (0, 12)), ((.mk
  (Option.some 54) (.mv (.tmp 0)) (Option.some (49, Bool.true))), (0, 12)), ((.mk (Option.some 55) (.mv (.tmp 1)) (Option.some (49, Bool.true))), (0, 12)), ((.mk (Option.some 56)
  (.atSlice 1 (.tmp 54) (.tmp 55)) (Option.some (49, Bool.true))), (0, 12)), ((.mk (Option.some 57) (.load 1 Bool.false (.tmp 56)) (Option.some (49, Bool.true))), (0, 12)), ((.mk
  (Option.some 58) (.call 134 [(.tmp 53), (.tmp 57)]) (Option.some (49, Bool.true))), (0, 15)), ((.mk (Option.some 59) (.un .not (.tmp 58)) (Option.some (49, Bool.true))), (13,
  15)), ((.mk (Option.some 60) (.pick (.tmp 49) (.tmp 59) (.const (.bool Bool.false))) Option.none), (13, 15))]) (.cond (.tmp 60) .skip (.exit 2))) (.block 3 (.region [(.mk
  (Option.some 61) (.mv (.tmp 11)) Option.none), (.mk (Option.some 62) (.bin .sub (.tmp 61) (.const (.int .i64 1))) Option.none), (.mk (Option.some 11) (.mv (.tmp 62))
  Option.none)]))))) (.seq (.seq (.region [(.mk (Option.some 63) (.mv (.tmp 10)) Option.none), (.mk (Option.some 64) (.mv (.tmp 11)) Option.none), (.mk (Option.some 65) (.bin .gtr
  (.tmp 63) (.tmp 64)) Option.none)]) (.cond (.tmp 65) (.seq (.draws [((.mk (Option.some 66) (.mv (.tmp 0)) Option.none), (0, 13)), ((.mk (Option.some 67) (.mv (.tmp 11))
  Option.none), (0, 13)), ((.mk (Option.some 68) (.mv (.tmp 0)) Option.none), (0, 15)), ((.mk (Option.some 69) (.mv (.tmp 1)) Option.none), (0, 15)), ((.mk (Option.some 70) (.mv
  (.tmp 0)) Option.none), (0, 13)), ((.mk (Option.some 71) (.mv (.tmp 1)) Option.none), (0, 13)), ((.mk (Option.some 72) (.atSlice 1 (.tmp 70) (.tmp 71)) Option.none), (0, 13)),
  ((.mk (Option.some 73) (.load 1 Bool.false (.tmp 72)) Option.none), (0, 13)), ((.mk (Option.some 74) (.mv (.tmp 0)) Option.none), (0, 13)), ((.mk (Option.some 75) (.mv (.tmp 11))
  Option.none), (0, 13)), ((.mk (Option.some 76) (.atSlice 1 (.tmp 74) (.tmp 75)) Option.none), (0, 13)), ((.mk (Option.some 77) (.load 1 Bool.false (.tmp 76)) Option.none), (0,
  13)), ((.mk (Option.some 78) (.atSlice 1 (.tmp 66) (.tmp 67)) Option.none), (0, 13)), ((.mk Option.none (.store 1 (.tmp 78) (.tmp 73)) Option.none), (0, 15)), ((.mk (Option.some
  79) (.atSlice 1 (.tmp 68) (.tmp 69)) Option.none), (14, 15)), ((.mk Option.none (.store 1 (.tmp 79) (.tmp 77)) Option.none), (14, 16))]) (.seq (.region [(.mk (Option.some 80)
  (.mv (.tmp 11)) Option.none), (.mk (Option.some 8) (.mv (.tmp 80)) Option.none), (.mk (Option.some 9) (.mv (.const (.bool Bool.true))) Option.none)]) .ret)) .skip)) (.seq (.draws
  [((.mk (Option.some 81) (.mv (.tmp 0)) Option.none), (0, 13)), ((.mk (Option.some 82) (.mv (.tmp 10)) Option.none), (0, 13)), ((.mk (Option.some 83) (.mv (.tmp 0)) Option.none),
  (0, 15)), ((.mk (Option.some 84) (.mv (.tmp 11)) Option.none), (0, 15)), ((.mk (Option.some 85) (.mv (.tmp 0)) Option.none), (0, 13)), ((.mk (Option.some 86) (.mv (.tmp 11))
  Option.none), (0, 13)), ((.mk (Option.some 87) (.atSlice 1 (.tmp 85) (.tmp 86)) Option.none), (0, 13)), ((.mk (Option.some 88) (.load 1 Bool.false (.tmp 87)) Option.none), (0,
  13)), ((.mk (Option.some 89) (.mv (.tmp 0)) Option.none), (0, 13)), ((.mk (Option.some 90) (.mv (.tmp 10)) Option.none), (0, 13)), ((.mk (Option.some 91) (.atSlice 1 (.tmp 89)
  (.tmp 90)) Option.none), (0, 13)), ((.mk (Option.some 92) (.load 1 Bool.false (.tmp 91)) Option.none), (0, 13)), ((.mk (Option.some 93) (.atSlice 1 (.tmp 81) (.tmp 82))
  Option.none), (0, 13)), ((.mk Option.none (.store 1 (.tmp 93) (.tmp 88)) Option.none), (0, 15)), ((.mk (Option.some 94) (.atSlice 1 (.tmp 83) (.tmp 84)) Option.none), (14, 15)),
  ((.mk Option.none (.store 1 (.tmp 94) (.tmp 92)) Option.none), (14, 16))]) (.seq (.region [(.mk (Option.some 95) (.mv (.tmp 10)) Option.none), (.mk (Option.some 96) (.bin .add
  (.tmp 95) (.const (.int .i64 1))) Option.none), (.mk (Option.some 10) (.mv (.tmp 96)) Option.none)]) (.seq (.region [(.mk (Option.some 97) (.mv (.tmp 11)) Option.none), (.mk
  (Option.some 98) (.bin .sub (.tmp 97) (.const (.int .i64 1))) Option.none), (.mk (Option.some 11) (.mv (.tmp 98)) Option.none)]) (.seq (.block 4 (.loop (.block 5 (.seq (.block 6
  (.loop (.seq (.seq (.draws [((.mk (Option.some 99) (.mv (.tmp 10)) Option.none), (0, 12)), ((.mk (Option.some 100) (.mv (.tmp 11)) Option.none), (0, 12)), ((.mk (Option.some 101)
  (.bin .leq (.tmp 99) (.tmp 100)) Option.none), (0, 12)), ((.mk (Option.some 102) (.mv (.tmp 101)) Option.none), (0, 12)), ((.mk (Option.some 103) (.mv (.tmp 0)) (Option.some
  (102, Bool.true))), (0, 12)), ((.mk (Option.some 104) (.mv (.tmp 10)) (Option.some (102, Bool.true))), (0, 12)), ((.mk (Option.some 105) (.atSlice 1 (.tmp 103) (.tmp 104))
  (Option.some (102, Bool.true))), (0, 12)), ((.mk (Option.some 106) (.load 1 Bool.false (.tmp 105)) (Option.some (102, Bool.true))), (0, 12)), ((.mk (Option.some 107) (.mv (.tmp
  0)) (Option.some (102, Bool.true))), (0, 12)), ((.mk (Option.some 108) (.mv (.tmp 1)) (Option.some (102, Bool.true))), (0, 12)), ((.mk (Option.some 109) (.atSlice 1 (.tmp 107)
  (.tmp 108)) (Option.some (102, Bool.true))), (0, 12)), ((.mk (Option.some 110) (.load 1 Bool.false (.tmp 109)) (Option.some (102, Bool.true))), (0, 12)), ((.mk (Option.some 111)
  (.call 134 [(.tmp 106), (.tmp 110)]) (Option.some (102, Bool.true))), (0, 14)), ((.mk (Option.some 112) (.pick (.tmp 102) (.tmp 111) (.const (.bool Bool.false))) Option.none),
  (13, 14))]) (.cond (.tmp 112) .skip (.exit 6))) (.block 7 (.region [(.mk (Option.some 113) (.mv (.tmp 10)) Option.none), (.mk (Option.some 114) (.bin .add (.tmp 113) (.const
  (.int .i64 1))) Option.none), (.mk (Option.some 10) (.mv (.tmp 114)) Option.none)]))))) (.seq (.block 8 (.loop (.seq (.seq (.draws [((.mk (Option.some 115) (.mv (.tmp 10))
  Option.none), (0, 12)), ((.mk (Option.some 116) (.mv (.tmp 11)) Option.none), (0, 12)), ((.mk (Option.some 117) (.bin .leq (.tmp 115) (.tmp 116)) Option.none), (0, 12)), ((.mk
  (Option.some 118) (.mv (.tmp 117)) Option.none), (0, 12)), ((.mk (Option.some 119) (.mv (.tmp 0)) (Option.some (118, Bool.true))), (0, 12)), ((.mk (Option.some 120) (.mv (.tmp
  11)) (Option.some (118, Bool.true))), (0, 12)), ((.mk (Option.some 121) (.atSlice 1 (.tmp 119) (.tmp 120)) (Option.some (118, Bool.true))), (0, 12)), ((.mk (Option.some 122)
  (.load 1 Bool.false (.tmp 121)) (Option.some (118, Bool.true))), (0, 12)), ((.mk (Option.some 123) (.mv (.tmp 0)) (Option.some (118, Bool.true))), (0, 12)), ((.mk (Option.some
  124) (.mv (.tmp 1)) (Option.some (118, Bool.true))), (0, 12)), ((.mk (Option.some 125) (.atSlice 1 (.tmp 123) (.tmp 124)) (Option.some (118, Bool.true))), (0, 12)), ((.mk
  (Option.some 126) (.load 1 Bool.false (.tmp 125)) (Option.some (118, Bool.true))), (0, 12)), ((.mk (Option.some 127) (.call 134 [(.tmp 122), (.tmp 126)]) (Option.some (118,
  Bool.true))), (0, 15)), ((.mk (Option.some 128) (.un .not (.tmp 127)) (Option.some (118, Bool.true))), (13, 15)), ((.mk (Option.some 129) (.pick (.tmp 118) (.tmp 128) (.const
  (.bool Bool.false))) Option.none), (13, 15))]) (.cond (.tmp 129) .skip (.exit 8))) (.block 9 (.region [(.mk (Option.some 130) (.mv (.tmp 11)) Option.none), (.mk (Option.some 131)
  (.bin .sub (.tmp 130) (.const (.int .i64 1))) Option.none), (.mk (Option.some 11) (.mv (.tmp 131)) Option.none)]))))) (.seq (.seq (.region [(.mk (Option.some 132) (.mv (.tmp 10))
  Option.none), (.mk (Option.some 133) (.mv (.tmp 11)) Option.none), (.mk (Option.some 134) (.bin .gtr (.tmp 132) (.tmp 133)) Option.none)]) (.cond (.tmp 134) (.exit 4) .skip))
  (.seq (.draws [((.mk (Option.some 135) (.mv (.tmp 0)) Option.none), (0, 13)), ((.mk (Option.some 136) (.mv (.tmp 10)) Option.none), (0, 13)), ((.mk (Option.some 137) (.mv (.tmp
  0)) Option.none), (0, 15)), ((.mk (Option.some 138) (.mv (.tmp 11)) Option.none), (0, 15)), ((.mk (Option.some 139) (.mv (.tmp 0)) Option.none), (0, 13)), ((.mk (Option.some 140)
  (.mv (.tmp 11)) Option.none), (0, 13)), ((.mk (Option.some 141) (.atSlice 1 (.tmp 139) (.tmp 140)) Option.none), (0, 13)), ((.mk (Option.some 142) (.load 1 Bool.false (.tmp 141))
  Option.none), (0, 13)), ((.mk (Option.some 143) (.mv (.tmp 0)) Option.none), (0, 13)), ((.mk (Option.some 144) (.mv (.tmp 10)) Option.none), (0, 13)), ((.mk (Option.some 145)
  (.atSlice 1 (.tmp 143) (.tmp 144)) Option.none), (0, 13)), ((.mk (Option.some 146) (.load 1 Bool.false (.tmp 145)) Option.none), (0, 13)), ((.mk (Option.some 147) (.atSlice 1
  (.tmp 135) (.tmp 136)) Option.none), (0, 13)), ((.mk Option.none (.store 1 (.tmp 147) (.tmp 142)) Option.none), (0, 15)), ((.mk (Option.some 148) (.atSlice 1 (.tmp 137) (.tmp
  138)) Option.none), (14, 15)), ((.mk Option.none (.store 1 (.tmp 148) (.tmp 146)) Option.none), (14, 16))]) (.seq (.region [(.mk (Option.some 149) (.mv (.tmp 10)) Option.none),
  (.mk (Option.some 150) (.bin .add (.tmp 149) (.const (.int .i64 1))) Option.none), (.mk (Option.some 10) (.mv (.tmp 150)) Option.none)]) (.region [(.mk (Option.some 151) (.mv
  (.tmp 11)) Option.none), (.mk (Option.some 152) (.bin .sub (.tmp 151) (.const (.int .i64 1))) Option.none), (.mk (Option.some 11) (.mv (.tmp 152)) Option.none)]))))))))) (.seq
  (.draws [((.mk (Option.some 153) (.mv (.tmp 0)) Option.none), (0, 13)), ((.mk (Option.some 154) (.mv (.tmp 11)) Option.none), (0, 13)), ((.mk (Option.some 155) (.mv (.tmp 0))
  Option.none), (0, 15)), ((.mk (Option.some 156) (.mv (.tmp 1)) Option.none), (0, 15)), ((.mk (Option.some 157) (.mv (.tmp 0)) Option.none), (0, 13)), ((.mk (Option.some 158) (.mv
  (.tmp 1)) Option.none), (0, 13)), ((.mk (Option.some 159) (.atSlice 1 (.tmp 157) (.tmp 158)) Option.none), (0, 13)), ((.mk (Option.some 160) (.load 1 Bool.false (.tmp 159))
  Option.none), (0, 13)), ((.mk (Option.some 161) (.mv (.tmp 0)) Option.none), (0, 13)), ((.mk (Option.some 162) (.mv (.tmp 11)) Option.none), (0, 13)), ((.mk (Option.some 163)
  (.atSlice 1 (.tmp 161) (.tmp 162)) Option.none), (0, 13)), ((.mk (Option.some 164) (.load 1 Bool.false (.tmp 163)) Option.none), (0, 13)), ((.mk (Option.some 165) (.atSlice 1
  (.tmp 153) (.tmp 154)) Option.none), (0, 13)), ((.mk Option.none (.store 1 (.tmp 165) (.tmp 160)) Option.none), (0, 15)), ((.mk (Option.some 166) (.atSlice 1 (.tmp 155) (.tmp
  156)) Option.none), (14, 15)), ((.mk Option.none (.store 1 (.tmp 166) (.tmp 164)) Option.none), (14, 16))]) (.seq (.region [(.mk (Option.some 167) (.mv (.tmp 11)) Option.none),
  (.mk (Option.some 8) (.mv (.tmp 167)) Option.none), (.mk (Option.some 9) (.mv (.const (.bool Bool.false))) Option.none)]) .ret)))))))))))) 168 [(.tmp 8), (.tmp 9)])
def a138 : AFn :=
  (.mk (.seq (.region [(.mk (Option.some 4) (.mv (.const (.int .i64 0))) Option.none)]) (.seq (.region [(.mk (Option.some 5) (.mv (.tmp 0)) Option.none), (.mk (Option.some 6) (.mv
  (.tmp 1)) Option.none), (.mk (Option.some 7) (.call 150 [(.tmp 5), (.tmp 6)]) Option.none), (.mk (Option.some 4) (.mv (.tmp 7)) Option.none)]) .ret)) 8 [(.tmp 4)])
def a141 : AFn :=
  (.mk (.seq (.region [(.mk (Option.some 2) (.mv (.const (.int .u64 0))) Option.none)]) (.seq (.region [(.mk (Option.some 3) (.mv (.tmp 0)) Option.none), (.mk (Option.some 4) (.conv
  .u64 (.tmp 3)) Option.none), (.mk (Option.some 5) (.call 106 [(.tmp 4)]) Option.none), (.mk (Option.some 6) (.bin .shl (.const (.int .u64 1)) (.tmp 5)) Option.none), (.mk
  (Option.some 2) (.mv (.tmp 6)) Option.none)]) .ret)) 7 [(.tmp 2)])
def a142 : AFn :=
  (.mk (.seq (.region [(.mk (Option.some 2) (.mv (.const (.int .u64 0))) Option.none)]) (.seq (.draws [((.mk (Option.some 3) (.mv (.tmp 0)) Option.none), (0, 9)), ((.mk (Option.some
  4) (.nilCheck (.tmp 3)) Option.none), (0, 9)), ((.mk (Option.some 5) (.load 1 Bool.false (.tmp 4)) Option.none), (0, 9)), ((.mk (Option.some 6) (.mv (.tmp 0)) Option.none), (0,
  9)), ((.mk (Option.some 7) (.nilCheck (.tmp 6)) Option.none), (0, 9)), ((.mk (Option.some 8) (.load 1 Bool.false (.tmp 7)) Option.none), (0, 9)), ((.mk (Option.some 9) (.bin .shl
  (.tmp 8) (.const (.int .u64 13))) Option.none), (0, 9)), ((.mk (Option.some 10) (.bin .xor (.tmp 5) (.tmp 9)) Option.none), (0, 9)), ((.mk (Option.some 11) (.nilCheck (.tmp 3))
  Option.none), (0, 9)), ((.mk Option.none (.store 1 (.tmp 11) (.tmp 10)) Option.none), (0, 10))]) (.seq (.draws [((.mk (Option.some 12) (.mv (.tmp 0)) Option.none), (0, 9)), ((.mk
  (Option.some 13) (.nilCheck (.tmp 12)) Option.none), (0, 9)), ((.mk (Option.some 14) (.load 1 Bool.false (.tmp 13)) Option.none), (0, 9)), ((.mk (Option.some 15) (.mv (.tmp 0))
  Option.none), (0, 9)), ((.mk (Option.some 16) (.nilCheck (.tmp 15)) Option.none), (0, 9)), ((.mk (Option.some 17) (.load 1 Bool.false (.tmp 16)) Option.none), (0, 9)), ((.mk
  (Option.some 18) (.bin .shr (.tmp 17) (.const (.int .u64 7))) Option.none), (0, 9)), ((.mk (Option.some 19) (.bin .xor (.tmp 14) (.tmp 18)) Option.none), (0, 9)), ((.mk
  (Option.some 20) (.nilCheck (.tmp 12)) Option.none), (0, 9)), ((.mk Option.none (.store 1 (.tmp 20) (.tmp 19)) Option.none), (0, 10))]) (.seq (.draws [((.mk (Option.some 21) (.mv
  (.tmp 0)) Option.none), (0, 9)), ((.mk (Option.some 22) (.nilCheck (.tmp 21)) Option.none), (0, 9)), ((.mk (Option.some 23) (.load 1 Bool.false (.tmp 22)) Option.none), (0, 9)),
  ((.mk (Option.some 24) (.mv (.tmp 0)) Option.none), (0, 9)), ((.mk (Option.some 25) (.nilCheck (.tmp 24)) Option.none), (0, 9)), ((.mk (Option.some 26) (.load 1 Bool.false (.tmp
  25)) Option.none), (0, 9)), ((.mk (Option.some 27) (.bin .shl (.tmp 26) (.const (.int .u64 17))) Option.none), (0, 9)), ((.mk (Option.some 28) (.bin .xor (.tmp 23) (.tmp 27))
  Option.none), (0, 9)), ((.mk (Option.some 29) (.nilCheck (.tmp 21)) Option.none), (0, 9)), ((.mk Option.none (.store 1 (.tmp 29) (.tmp 28)) Option.none), (0, 10))]) (.seq
  (.region [(.mk (Option.some 30) (.mv (.tmp 0)) Option.none), (.mk (Option.some 31) (.nilCheck (.tmp 30)) Option.none), (.mk (Option.some 32) (.load 1 Bool.false (.tmp 31))
  Option.none), (.mk (Option.some 2) (.mv (.tmp 32)) Option.none)]) .ret))))) 33 [(.tmp 2)])
def a146 : AFn :=
  (.mk (.seq (.region [(.mk (Option.some 10) (.mv (.tmp 1)) Option.none), (.mk (Option.some 8) (.mv (.tmp 10)) Option.none)]) (.block 0 (.loop (.block 1 (.seq (.region [(.mk
  (Option.some 11) (.mv (.tmp 8)) Option.none), (.mk (Option.some 12) (.bin .mul (.const (.int .i64 2)) (.tmp 11)) Option.none), (.mk (Option.some 13) (.bin .add (.tmp 12) (.const
  (.int .i64 1))) Option.none), (.mk (Option.some 9) (.mv (.tmp 13)) Option.none)]) (.seq (.seq (.region [(.mk (Option.some 14) (.mv (.tmp 9)) Option.none), (.mk (Option.some 15)
  (.mv (.tmp 2)) Option.none), (.mk (Option.some 16) (.bin .geq (.tmp 14) (.tmp 15)) Option.none)]) (.cond (.tmp 16) (.exit 0) .skip)) (.seq (.seq (.draws [((.mk (Option.some 17)
  (.mv (.tmp 9)) Option.none), (0, 18)), ((.mk (Option.some 18) (.bin .add (.tmp 17) (.const (.int .i64 1))) Option.none), (0, 18)), ((.mk (Option.some 19) (.mv (.tmp 2))
  Option.none), (0, 18)), ((.mk (Option.some 20) (.bin .lss (.tmp 18) (.tmp 19)) Option.none), (0, 18)), ((.mk (Option.some 21) (.mv (.tmp 20)) Option.none), (0, 18)), ((.mk
  (Option.some 22) (.mv (.tmp 0)) (Option.some (21, Bool.true))), (0, 18)), ((.mk (Option.some 23) (.mv (.tmp 3)) (Option.some (21, Bool.true))), (0, 18)), ((.mk (Option.some 24)
  (.mv (.tmp 9)) (Option.some (21, Bool.true))), (0, 18)), ((.mk (Option.some 25) (.bin .add (.tmp 23) (.tmp 24)) (Option.some (21, Bool.true))), (0, 18)), ((.mk (Option.some 26)
  (.atSlice 1 (.tmp 22) (.tmp 25)) (Option.some (21, Bool.true))), (0, 18)), ((.mk (Option.some 27) (.load 1 Bool.false (.tmp 26)) (Option.some (21, Bool.true))), (0, 18)), ((.mk
  (Option.some 28) (.mv (.tmp 0)) (Option.some (21, Bool.true))), (0, 18)), ((.mk (Option.some 29) (.mv (.tmp 3)) (Option.some (21, Bool.true))), (0, 18)), ((.mk (Option.some 30)
  (.mv (.tmp 9)) (Option.some (21, Bool.true))), (0, 18)), ((.mk (Option.some 31) (.bin .add (.tmp 29) (.tmp 30)) (Option.some (21, Bool.true))), (0, 18)), ((.mk (Option.some 32)
  (.bin .add (.tmp 31) (.const (.int .i64 1))) (Option.some (21, Bool.true))), (0, 18)), ((.mk (Option.some 33) (.atSlice 1 (.tmp 28) (.tmp 32)) (Option.some (21, Bool.true))), (0,
  18)), ((.mk (Option.some 34) (.load 1 Bool.false (.tmp 33)) (Option.some (21, Bool.true))), (0, 18)), ((.mk (Option.some 35) (.call 134 [(.tmp 27), (.tmp 34)]) (Option.some (21,
  Bool.true))), (0, 20)), ((.mk (Option.some 36) (.pick (.tmp 21) (.tmp 35) (.const (.bool Bool.false))) Option.none), (19, 20))]) (.cond (.tmp 36) (.region [(.mk (Option.some 37)
  (.mv (.tmp 9)) Option.none), (.mk (Option.some 38) (.bin .add (.tmp 37) (.const (.int .i64 1))) Option.none), (.mk (Option.some 9) (.mv (.tmp 38)) Option.none)]) .skip)) (.seq
  (.seq (.draws [((.mk (Option.some 39) (.mv (.tmp 0)) Option.none), (0, 12)), ((.mk (Option.some 40) (.mv (.tmp 3)) Option.none), (0, 12)), ((.mk (Option.some 41) (.mv (.tmp 8))
  Option.none), (0, 12)), ((.mk (Option.some 42) (.bin .add (.tmp 40) (.tmp 41)) Option.none), (0, 12)), ((.mk (Option.some 43) (.atSlice 1 (.tmp 39) (.tmp 42)) Option.none), (0,
  12)), ((.mk (Option.some 44) (.load 1 Bool.false (.tmp 43)) Option.none), (0, 12)), ((.mk (Option.some 45) (.mv (.tmp 0)) Option.none), (0, 12)), ((.mk (Option.some 46) (.mv
  (.tmp 3)) Option.none), (0, 12)), ((.mk (Option.some 47) (.mv (.tmp 9)) Option.none), (0, 12)), ((.mk (Option.some 48) (.bin .add (.tmp 46) (.tmp 47)) Option.none), (0, 12)),
  ((.mk (Option.some 49) (.atSlice 1 (.tmp 45) (.tmp 48)) Option.none), (0, 12)), ((.mk (Option.some 50) (.load 1 Bool.false (.tmp 49)) Option.none), (0, 12)), ((.mk (Option.some
  51) (.call 134 [(.tmp 44), (.tmp 50)]) Option.none), (0, 14)), ((.mk (Option.some 52) (.un .not (.tmp 51)) Option.none), (13, 14))]) (.cond (.tmp 52) .ret .skip)) (.seq (.draws
  [((.mk (Option.some 53) (.mv (.tmp 0)) Option.none), (0, 21)), ((.mk (Option.some 54) (.mv (.tmp 3)) Option.none), (0, 21)), ((.mk (Option.some 55) (.mv (.tmp 8)) Option.none),
  (0, 21)), ((.mk (Option.some 56) (.bin .add (.tmp 54) (.tmp 55)) Option.none), (0, 21)), ((.mk (Option.some 57) (.mv (.tmp 0)) Option.none), (0, 23)), ((.mk (Option.some 58) (.mv
  (.tmp 3)) Option.none), (0, 23)), ((.mk (Option.some 59) (.mv (.tmp 9)) Option.none), (0, 23)), ((.mk (Option.some 60) (.bin .add (.tmp 58) (.tmp 59)) Option.none), (0, 23)),
  ((.mk (Option.some 61) (.mv (.tmp 0)) Option.none), (0, 21)), ((.mk (Option.some 62) (.mv (.tmp 3)) Option.none), (0, 21)), ((.mk (Option.some 63) (.mv (.tmp 9)) Option.none),
  (0, 21)), ((.mk (Option.some 64) (.bin .add (.tmp 62) (.tmp 63)) Option.none), (0, 21)), ((.mk (Option.some 65) (.atSlice 1 (.tmp 61) (.tmp 64)) Option.none), (0, 21)), ((.mk
  (Option.some 66) (.load 1 Bool.false (.tmp 65)) Option.none), (0, 21)), ((.mk (Option.some 67) (.mv (.tmp 0)) Option.none), (0, 21)), ((.mk (Option.some 68) (.mv (.tmp 3))
  Option.none), (0, 21)), ((.mk (Option.some 69) (.mv (.tmp 8)) Option.none), (0, 21)), ((.mk (Option.some 70) (.bin .add (.tmp 68) (.tmp 69)) Option.none), (0, 21)), ((.mk
  (Option.some 71) (.atSlice 1 (.tmp 67) (.tmp 70)) Option.none), (0, 21)), ((.mk (Option.some 72) (.load 1 Bool.false (.tmp 71)) Option.none), (0, 21)), ((.mk (Option.some 73)
  (.atSlice 1 (.tmp 53) (.tmp 56)) Option.none), (0, 21)), ((.mk Option.none (.store 1 (.tmp 73) (.tmp 66)) Option.none), (0, 23)), ((.mk (Option.some 74) (.atSlice 1 (.tmp 57)
  (.tmp 60)) Option.none), (22, 23)), ((.mk Option.none (.store 1 (.tmp 74) (.tmp 72)) Option.none), (22, 24))]) (.region [(.mk (Option.some 75) (.mv (.tmp 9)) Option.none), (.mk
  (Option.some 8) (.mv (.tmp 75)) Option.none)])))))))))) 76 [])
def a147 : AFn :=
  (.mk (.seq (.region [(.mk (Option.some 6) (.mv (.const (.int .i64 0))) Option.none)]) (.seq (.region [(.mk (Option.some 7) (.mv (.tmp 0)) Option.none), (.mk (Option.some 8) (.mv
  (.tmp 1)) Option.none), (.mk (Option.some 9) (.bin .sub (.tmp 8) (.const (.int .i64 1))) Option.none), (.mk (Option.some 10) (.mv (.tmp 1)) Option.none), (.mk (Option.some 11)
  (.mv (.tmp 1)) Option.none), (.mk (Option.some 12) (.bin .add (.tmp 11) (.const (.int .i64 1))) Option.none), (.mk (Option.some 13) (.mv (.tmp 2)) Option.none), (.mk (Option.some
  14) (.call 148 [(.tmp 7), (.tmp 9), (.tmp 10), (.tmp 12), (.tmp 13)]) Option.none), (.mk (Option.some 6) (.mv (.tmp 14)) Option.none)]) .ret)) 15 [(.tmp 6)])
def a148 : AFn :=
  (.mk (.seq (.region [(.mk (Option.some 10) (.mv (.const (.int .i64 0))) Option.none)]) (.seq (.region [(.mk (Option.some 12) (.mv (.tmp 0)) Option.none), (.mk (Option.some 13) (.mv
  (.tmp 1)) Option.none), (.mk (Option.some 14) (.mv (.tmp 2)) Option.none), (.mk (Option.some 15) (.mv (.tmp 4)) Option.none), (.mk (Option.some 16) (.call 153 [(.tmp 12), (.tmp
  13), (.tmp 14), (.tmp 15)]) Option.none), (.mk (Option.some 11) (.mv (.tmp 16)) Option.none), (.mk (Option.some 17) (.extract (.tmp 11) 0) Option.none), (.mk (Option.some 18)
  (.extract (.tmp 11) 1) Option.none), (.mk (Option.some 1) (.mv (.tmp 17)) Option.none), (.mk (Option.some 2) (.mv (.tmp 18)) Option.none)]) (.seq (.region [(.mk (Option.some 20)
  (.mv (.tmp 0)) Option.none), (.mk (Option.some 21) (.mv (.tmp 2)) Option.none), (.mk (Option.some 22) (.mv (.tmp 3)) Option.none), (.mk (Option.some 23) (.mv (.tmp 4))
  Option.none), (.mk (Option.some 24) (.call 153 [(.tmp 20), (.tmp 21), (.tmp 22), (.tmp 23)]) Option.none), (.mk (Option.some 19) (.mv (.tmp 24)) Option.none), (.mk (Option.some
  25) (.extract (.tmp 19) 0) Option.none), (.mk (Option.some 26) (.extract (.tmp 19) 1) Option.none), (.mk (Option.some 2) (.mv (.tmp 25)) Option.none), (.mk (Option.some 3) (.mv
  (.tmp 26)) Option.none)]) (.seq (.region [(.mk (Option.some 28) (.mv (.tmp 0)) Option.none), (.mk (Option.some 29) (.mv (.tmp 1)) Option.none), (.mk (Option.some 30) (.mv (.tmp
  2)) Option.none), (.mk (Option.some 31) (.mv (.tmp 4)) Option.none), (.mk (Option.some 32) (.call 153 [(.tmp 28), (.tmp 29), (.tmp 30), (.tmp 31)]) Option.none), (.mk
  (Option.some 27) (.mv (.tmp 32)) Option.none), (.mk (Option.some 33) (.extract (.tmp 27) 0) Option.none), (.mk (Option.some 34) (.extract (.tmp 27) 1) Option.none), (.mk
  (Option.some 1) (.mv (.tmp 33)) Option.none), (.mk (Option.some 2) (.mv (.tmp 34)) Option.none)]) (.seq (.region [(.mk (Option.some 35) (.mv (.tmp 2)) Option.none), (.mk
  (Option.some 10) (.mv (.tmp 35)) Option.none)]) .ret))))) 36 [(.tmp 10)])
def a149 : AFn :=
  (.mk (.seq (.region [(.mk (Option.some 2) (.mv (.const (.bool Bool.false))) Option.none)]) (.seq (.region [(.mk (Option.some 3) (.mv (.tmp 0)) Option.none), (.mk (Option.some 4)
  (.mv (.tmp 0)) Option.none), (.mk (Option.some 5) (.bin .neq (.tmp 3) (.tmp 4)) Option.none), (.mk (Option.some 2) (.mv (.tmp 5)) Option.none)]) .ret)) 6 [(.tmp 2)])
def a153 : AFn :=
  (.mk (.seq (.region [(.mk (Option.some 8) (.mv (.const (.int .i64 0))) Option.none), (.mk (Option.some 9) (.mv (.const (.int .i64 0))) Option.none)]) (.seq (.seq (.draws [((.mk
  (Option.some 10) (.mv (.tmp 0)) Option.none), (0, 8)), ((.mk (Option.some 11) (.mv (.tmp 2)) Option.none), (0, 8)), ((.mk (Option.some 12) (.atSlice 1 (.tmp 10) (.tmp 11))
  Option.none), (0, 8)), ((.mk (Option.some 13) (.load 1 Bool.false (.tmp 12)) Option.none), (0, 8)), ((.mk (Option.some 14) (.mv (.tmp 0)) Option.none), (0, 8)), ((.mk
  (Option.some 15) (.mv (.tmp 1)) Option.none), (0, 8)), ((.mk (Option.some 16) (.atSlice 1 (.tmp 14) (.tmp 15)) Option.none), (0, 8)), ((.mk (Option.some 17) (.load 1 Bool.false
  (.tmp 16)) Option.none), (0, 8)), ((.mk (Option.some 18) (.call 134 [(.tmp 13), (.tmp 17)]) Option.none), (0, 9))]) (.cond (.tmp 18) (.seq (.region [(.mk (Option.some 19) (.mv
  (.tmp 3)) Option.none), (.mk (Option.some 20) (.nilCheck (.tmp 19)) Option.none), (.mk (Option.some 21) (.load 1 Bool.false (.tmp 20)) Option.none), (.mk (Option.some 22) (.bin
  .add (.tmp 21) (.const (.int .i64 1))) Option.none), (.mk (Option.some 23) (.nilCheck (.tmp 19)) Option.none), (.mk Option.none (.store 1 (.tmp 23) (.tmp 22)) Option.none)])
  (.seq (.region [(.mk (Option.some 24) (.mv (.tmp 2)) Option.none), (.mk (Option.some 25) (.mv (.tmp 1)) Option.none), (.mk (Option.some 8) (.mv (.tmp 24)) Option.none), (.mk
  (Option.some 9) (.mv (.tmp 25)) Option.none)]) .ret)) .skip)) (.seq (.region [(.mk (Option.some 26) (.mv (.tmp 1)) Option.none), (.mk (Option.some 27) (.mv (.tmp 2))
  Option.none), (.mk (Option.some 8) (.mv (.tmp 26)) Option.none), (.mk (Option.some 9) (.mv (.tmp 27)) Option.none)]) .ret))) 28 [(.tmp 8), (.tmp 9)])
def fns : Nat → Option AFn
  | 3 => some a3
  | 4 => some a4
  | 5 => some a5
  | 6 => some a6
  | 7 => some a7
  | 8 => some a8
  | 9 => some a9
  | 10 => some a10
  | 11 => some a11
  | 12 => some a12
  | 13 => some a13
  | 14 => some a14
  | 15 => some a15
  | 17 => some a17
  | 18 => some a18
  | 19 => some a19
  | 20 => some a20
  | 21 => some a21
  | 22 => some a22
  | 23 => some a23
  | 24 => some a24
  | 25 => some a25
  | 26 => some a26
  | 27 => some a27
  | 28 => some a28
  | 29 => some a29
  | 30 => some a30
  | 34 => some a34
  | 35 => some a35
  | 40 => some a40
  | 41 => some a41
  | 43 => some a43
  | 44 => some a44
  | 45 => some a45
  | 46 => some a46
  | 47 => some a47
  | 49 => some a49
  | 50 => some a50
  | 51 => some a51
  | 52 => some a52
  | 53 => some a53
  | 54 => some a54
  | 55 => some a55
  | 56 => some a56
  | 58 => some a58
  | 68 => some a68
  | 69 => some a69
  | 70 => some a70
  | 71 => some a71
  | 72 => some a72
  | 73 => some a73
  | 78 => some a78
  | 79 => some a79
  | 80 => some a80
  | 81 => some a81
  | 85 => some a85
  | 86 => some a86
  | 87 => some a87
  | 88 => some a88
  | 89 => some a89
  | 90 => some a90
  | 96 => some a96
  | 97 => some a97
  | 98 => some a98
  | 99 => some a99
  | 100 => some a100
  | 106 => some a106
  | 107 => some a107
  | 108 => some a108
  | 109 => some a109
  | 111 => some a111
  | 112 => some a112
  | 113 => some a113
  | 125 => some a125
  | 126 => some a126
  | 127 => some a127
  | 128 => some a128
  | 129 => some a129
  | 130 => some a130
  | 131 => some a131
  | 132 => some a132
  | 133 => some a133
  | 134 => some a134
  | 135 => some a135
  | 136 => some a136
  | 138 => some a138
  | 141 => some a141
  | 142 => some a142
  | 146 => some a146
  | 147 => some a147
  | 148 => some a148
  | 149 => some a149
  | 153 => some a153
  | _ => none
end Go.Proofs.YtkmgkdjnkijceaaGreatDoor
