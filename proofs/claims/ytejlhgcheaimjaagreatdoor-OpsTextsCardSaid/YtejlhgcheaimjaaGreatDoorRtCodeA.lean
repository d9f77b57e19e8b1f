/- The functions of the seat as the abstract machine's code: no program in sight. -/
import Derived.Test.YtejlhgcheaimjaaGreatDoorAmDefs
namespace Go.Proofs.YtejlhgcheaimjaaGreatDoor
open Go.AM
set_option maxRecDepth 100000
def a3 : AFn :=
  (.mk (.seq (.region [(.mk (Option.some 4) (.mv (.const (.bool Bool.false))) Option.none)]) (.seq (.region [(.mk (Option.some 15) (.mv (.tmp 0)) Option.none), (.mk (Option.some 16)
  (.call 5 [(.tmp 15)]) Option.none), (.mk (Option.some 0) (.mv (.tmp 16)) Option.none)]) (.seq (.seq (.region [(.mk (Option.some 17) (.mv (.tmp 1)) Option.none), (.mk (Option.some
  18) (.lenStr (.tmp 17)) Option.none), (.mk (Option.some 19) (.bin .gtr (.tmp 18) (.const (.int .i64 300))) Option.none)]) (.cond (.tmp 19) (.region [(.mk (Option.some 20) (.mv
  (.tmp 1)) Option.none), (.mk (Option.some 21) (.cutStr (.tmp 20) Option.none (Option.some (.const (.int .i64 300)))) Option.none), (.mk (Option.some 1) (.mv (.tmp 21))
  Option.none)]) .skip)) (.seq (.region [(.mk (Option.some 22) (.mv (.tmp 0)) Option.none), (.mk (Option.some 23) (.call 6 [(.tmp 22)]) Option.none), (.mk (Option.some 5) (.mv
  (.tmp 23)) Option.none)]) (.seq (.seq (.region [(.mk (Option.some 24) (.mv (.tmp 5)) Option.none), (.mk (Option.some 25) (.mv (.tmp 0)) Option.none), (.mk (Option.some 26) (.call
  7 [(.tmp 25)]) Option.none), (.mk (Option.some 27) (.bin .neq (.tmp 24) (.tmp 26)) Option.none)]) (.cond (.tmp 27) (.seq (.region [(.mk (Option.some 4) (.mv (.const (.bool
  Bool.false))) Option.none)]) .ret) .skip)) (.seq (.region [(.mk (Option.some 29) (.mv (.tmp 1)) Option.none), (.mk (Option.some 30) (.call 8 [(.tmp 29)]) Option.none), (.mk
  (Option.some 28) (.mv (.tmp 30)) Option.none), (.mk (Option.some 31) (.extract (.tmp 28) 0) Option.none), (.mk (Option.some 32) (.extract (.tmp 28) 1) Option.none), (.mk
  (Option.some 33) (.extract (.tmp 28) 2) Option.none), (.mk (Option.some 6) (.mv (.tmp 31)) Option.none), (.mk (Option.some 7) (.mv (.tmp 32)) Option.none), (.mk (Option.some 8)
  (.mv (.tmp 33)) Option.none)]) (.seq (.region [(.mk (Option.some 35) (.mv (.tmp 1)) Option.none), (.mk (Option.some 36) (.call 9 [(.tmp 35)]) Option.none), (.mk (Option.some 34)
  (.mv (.tmp 36)) Option.none), (.mk (Option.some 37) (.extract (.tmp 34) 0) Option.none), (.mk (Option.some 38) (.extract (.tmp 34) 1) Option.none), (.mk (Option.some 39)
  (.extract (.tmp 34) 2) Option.none), (.mk (Option.some 9) (.mv (.tmp 37)) Option.none), (.mk (Option.some 10) (.mv (.tmp 38)) Option.none), (.mk (Option.some 11) (.mv (.tmp 39))
  Option.none)]) (.seq (.seq (.region [(.mk (Option.some 40) (.mv (.tmp 8)) Option.none), (.mk (Option.some 41) (.mv (.tmp 11)) Option.none), (.mk (Option.some 42) (.bin .neq (.tmp
  40) (.tmp 41)) Option.none), (.mk (Option.some 43) (.mv (.tmp 42)) Option.none), (.mk (Option.some 44) (.mv (.tmp 7)) (Option.some (43, Bool.false))), (.mk (Option.some 45) (.mv
  (.tmp 10)) (Option.some (43, Bool.false))), (.mk (Option.some 46) (.bin .neq (.tmp 44) (.tmp 45)) (Option.some (43, Bool.false))), (.mk (Option.some 47) (.pick (.tmp 43) (.const
  (.bool Bool.true)) (.tmp 46)) Option.none), (.mk (Option.some 48) (.mv (.tmp 47)) Option.none), (.mk (Option.some 49) (.mv (.tmp 6)) (Option.some (48, Bool.false))), (.mk
  (Option.some 50) (.mv (.tmp 9)) (Option.some (48, Bool.false))), (.mk (Option.some 51) (.call 10 [(.tmp 49), (.tmp 50)]) (Option.some (48, Bool.false))), (.mk (Option.some 52)
  (.un .not (.tmp 51)) (Option.some (48, Bool.false))), (.mk (Option.some 53) (.pick (.tmp 48) (.const (.bool Bool.true)) (.tmp 52)) Option.none)]) (.cond (.tmp 53) (.seq (.region
  [(.mk (Option.some 4) (.mv (.const (.bool Bool.false))) Option.none)]) .ret) .skip)) (.seq (.seq (.region [(.mk (Option.some 54) (.mv (.tmp 0)) Option.none), (.mk (Option.some
  55) (.call 11 [(.tmp 54)]) Option.none), (.mk (Option.some 56) (.bin .neq (.tmp 55) (.const (.int .i64 0))) Option.none)]) (.cond (.tmp 56) (.seq (.region [(.mk (Option.some 57)
  (.call 12 []) Option.none), (.mk (Option.some 4) (.mv (.tmp 57)) Option.none)]) .ret) .skip)) (.seq (.region [(.mk (Option.some 59) (.mv (.tmp 5)) Option.none), (.mk (Option.some
  60) (.call 8 [(.tmp 59)]) Option.none), (.mk (Option.some 58) (.mv (.tmp 60)) Option.none), (.mk (Option.some 61) (.extract (.tmp 58) 0) Option.none), (.mk (Option.some 62)
  (.extract (.tmp 58) 1) Option.none), (.mk (Option.some 63) (.extract (.tmp 58) 2) Option.none), (.mk (Option.some 12) (.mv (.tmp 61)) Option.none), (.mk (Option.some 13) (.mv
  (.tmp 62)) Option.none), (.mk (Option.some 14) (.mv (.tmp 63)) Option.none)]) (.seq (.region [(.mk (Option.some 64) (.mv (.tmp 14)) Option.none), (.mk (Option.some 65) (.bin .eql
  (.tmp 64) (.const (.int .i64 0))) Option.none), (.mk (Option.some 66) (.mv (.tmp 65)) Option.none), (.mk (Option.some 67) (.mv (.tmp 12)) (Option.some (66, Bool.true))), (.mk
  (Option.some 68) (.mv (.tmp 0)) (Option.some (66, Bool.true))), (.mk (Option.some 69) (.call 10 [(.tmp 67), (.tmp 68)]) (Option.some (66, Bool.true))), (.mk (Option.some 70)
  (.pick (.tmp 66) (.tmp 69) (.const (.bool Bool.false))) Option.none), (.mk (Option.some 71) (.mv (.tmp 70)) Option.none), (.mk (Option.some 72) (.call 12 []) (Option.some (71,
  Bool.true))), (.mk (Option.some 73) (.pick (.tmp 71) (.tmp 72) (.const (.bool Bool.false))) Option.none), (.mk (Option.some 4) (.mv (.tmp 73)) Option.none)]) .ret))))))))))) 74
  [(.tmp 4)])
def a5 : AFn :=
  (.mk (.seq (.region [(.mk (Option.some 2) (.mv (.const (.slice Option.none 0 0))) Option.none)]) (.seq (.region [(.mk (Option.some 3) (.mv (.const (.slice Option.none 0 0)))
  Option.none)]) (.seq (.seq (.region [(.mk (Option.some 6) (.mv (.tmp 0)) Option.none), (.mk (Option.some 7) (.len (.tmp 6)) Option.none), (.mk (Option.some 8) (.mv (.const (.int
  .i64 0))) Option.none)]) (.block 0 (.loop (.seq (.region [(.mk (Option.some 9) (.bin .lss (.tmp 8) (.tmp 7)) Option.none)]) (.seq (.cond (.tmp 9) .skip (.exit 0)) (.seq (.block 1
  (.seq (.region [(.mk (Option.some 10) (.mv (.tmp 8)) Option.none), (.mk (Option.some 11) (.atSlice 4 (.tmp 6) (.tmp 8)) Option.none), (.mk (Option.some 12) (.load 4 Bool.true
  (.tmp 11)) Option.none), (.mk (Option.some 5) (.alloc [(.int .i64 0), (.str []), (.int .i64 0), (.int .i64 0)]) Option.none), (.mk (Option.some 4) (.mv (.tmp 10)) Option.none),
  (.mk Option.none (.store 4 (.tmp 5) (.tmp 12)) Option.none)]) (.seq (.seq (.region [(.mk (Option.some 13) (.mv (.tmp 4)) Option.none), (.mk (Option.some 14) (.bin .geq (.tmp 13)
  (.const (.int .i64 12))) Option.none)]) (.cond (.tmp 14) (.exit 0) .skip)) (.seq (.seq (.region [(.mk (Option.some 15) (.fieldAddr 1 (.tmp 5)) Option.none), (.mk (Option.some 16)
  (.load 1 Bool.false (.tmp 15)) Option.none), (.mk (Option.some 17) (.lenStr (.tmp 16)) Option.none), (.mk (Option.some 18) (.bin .gtr (.tmp 17) (.const (.int .i64 20)))
  Option.none)]) (.cond (.tmp 18) (.region [(.mk (Option.some 19) (.fieldAddr 1 (.tmp 5)) Option.none), (.mk (Option.some 20) (.load 1 Bool.false (.tmp 19)) Option.none), (.mk
  (Option.some 21) (.cutStr (.tmp 20) Option.none (Option.some (.const (.int .i64 20)))) Option.none), (.mk (Option.some 22) (.fieldAddr 1 (.tmp 5)) Option.none), (.mk Option.none
  (.store 1 (.tmp 22) (.tmp 21)) Option.none)]) .skip)) (.region [(.mk (Option.some 23) (.mv (.tmp 3)) Option.none), (.mk (Option.some 24) (.load 4 Bool.true (.tmp 5))
  Option.none), (.mk (Option.some 25) (.buildSlice 1 4 [(.int .i64 0), (.str []), (.int .i64 0), (.int .i64 0)] [(0, (4, (.tmp 24)))]) Option.none), (.mk (Option.some 26) (.append
  Bool.false 4 40 (.tmp 23) (.tmp 25)) Option.none), (.mk (Option.some 3) (.mv (.tmp 26)) Option.none)]))))) (.region [(.mk (Option.some 27) (.bin .add (.tmp 8) (.const (.int .i64
  1))) Option.none), (.mk (Option.some 8) (.mv (.tmp 27)) Option.none)]))))))) (.seq (.region [(.mk (Option.some 28) (.mv (.tmp 3)) Option.none), (.mk (Option.some 2) (.mv (.tmp
  28)) Option.none)]) .ret)))) 29 [(.tmp 2)])
def a6 : AFn :=
  (.mk (.seq (.region [(.mk (Option.some 2) (.mv (.const (.string (ByteArray.mk #[])))) Option.none)]) (.seq (.region [(.mk (Option.some 3) (.mv (.const (.slice Option.none 0 0)))
  Option.none)]) (.seq (.seq (.region [(.mk (Option.some 6) (.mv (.tmp 0)) Option.none), (.mk (Option.some 7) (.len (.tmp 6)) Option.none), (.mk (Option.some 8) (.mv (.const (.int
  .i64 0))) Option.none)]) (.block 0 (.loop (.seq (.region [(.mk (Option.some 9) (.bin .lss (.tmp 8) (.tmp 7)) Option.none)]) (.seq (.cond (.tmp 9) .skip (.exit 0)) (.seq (.block 1
  (.seq (.region [(.mk (Option.some 10) (.atSlice 4 (.tmp 6) (.tmp 8)) Option.none), (.mk (Option.some 11) (.load 4 Bool.true (.tmp 10)) Option.none), (.mk (Option.some 5) (.alloc
  [(.int .i64 0), (.str []), (.int .i64 0), (.int .i64 0)]) Option.none), (.mk Option.none (.store 4 (.tmp 5) (.tmp 11)) Option.none)]) (.region [(.mk (Option.some 12) (.mv (.tmp
  3)) Option.none), (.mk (Option.some 13) (.load 4 Bool.true (.tmp 5)) Option.none), (.mk (Option.some 14) (.call 17 [(.tmp 13)]) Option.none), (.mk (Option.some 15) (.buildSlice 1
  1 [(.str [])] [(0, (1, (.tmp 14)))]) Option.none), (.mk (Option.some 16) (.append Bool.false 1 16 (.tmp 12) (.tmp 15)) Option.none), (.mk (Option.some 3) (.mv (.tmp 16))
  Option.none)]))) (.region [(.mk (Option.some 17) (.bin .add (.tmp 8) (.const (.int .i64 1))) Option.none), (.mk (Option.some 8) (.mv (.tmp 17)) Option.none)]))))))) (.seq
  (.region [(.mk (Option.some 18) (.mv (.tmp 3)) Option.none), (.mk (Option.some 19) (.call 18 [(.tmp 18), (.const (.string (ByteArray.mk #[59, 32])))]) Option.none), (.mk
  (Option.some 2) (.mv (.tmp 19)) Option.none)]) .ret)))) 20 [(.tmp 2)])
def a7 : AFn :=
  (.mk (.seq (.region [(.mk (Option.some 2) (.mv (.const (.string (ByteArray.mk #[])))) Option.none)]) (.seq (.region [(.mk (Option.some 3) (.mv (.const (.string (ByteArray.mk
  #[])))) Option.none)]) (.seq (.seq (.region [(.mk (Option.some 6) (.mv (.tmp 0)) Option.none), (.mk (Option.some 7) (.len (.tmp 6)) Option.none), (.mk (Option.some 8) (.mv
  (.const (.int .i64 0))) Option.none)]) (.block 0 (.loop (.seq (.region [(.mk (Option.some 9) (.bin .lss (.tmp 8) (.tmp 7)) Option.none)]) (.seq (.cond (.tmp 9) .skip (.exit 0))
  (.seq (.block 1 (.seq (.region [(.mk (Option.some 10) (.mv (.tmp 8)) Option.none), (.mk (Option.some 11) (.atSlice 4 (.tmp 6) (.tmp 8)) Option.none), (.mk (Option.some 12) (.load
  4 Bool.true (.tmp 11)) Option.none), (.mk (Option.some 5) (.alloc [(.int .i64 0), (.str []), (.int .i64 0), (.int .i64 0)]) Option.none), (.mk (Option.some 4) (.mv (.tmp 10))
  Option.none), (.mk Option.none (.store 4 (.tmp 5) (.tmp 12)) Option.none)]) (.seq (.seq (.region [(.mk (Option.some 13) (.mv (.tmp 4)) Option.none), (.mk (Option.some 14) (.bin
  .gtr (.tmp 13) (.const (.int .i64 0))) Option.none)]) (.cond (.tmp 14) (.region [(.mk (Option.some 15) (.mv (.tmp 3)) Option.none), (.mk (Option.some 16) (.bin .add (.tmp 15)
  (.const (.string (ByteArray.mk #[59, 32])))) Option.none), (.mk (Option.some 3) (.mv (.tmp 16)) Option.none)]) .skip)) (.seq (.seq (.region [(.mk (Option.some 17) (.load 4
  Bool.true (.tmp 5)) Option.none), (.mk (Option.some 18) (.call 19 [(.tmp 17)]) Option.none), (.mk (Option.some 19) (.un .not (.tmp 18)) Option.none)]) (.cond (.tmp 19) (.seq
  (.region [(.mk (Option.some 20) (.mv (.tmp 3)) Option.none), (.mk (Option.some 21) (.bin .add (.tmp 20) (.const (.string (ByteArray.mk #[63])))) Option.none), (.mk (Option.some
  3) (.mv (.tmp 21)) Option.none)]) (.exit 1)) .skip)) (.seq (.draws [((.mk (Option.some 22) (.mv (.tmp 3)) Option.none), (0, 12)), ((.mk (Option.some 23) (.call 20 [])
  Option.none), (0, 12)), ((.mk (Option.some 24) (.fieldAddr 0 (.tmp 5)) Option.none), (0, 12)), ((.mk (Option.some 25) (.load 1 Bool.false (.tmp 24)) Option.none), (0, 12)), ((.mk
  (Option.some 26) (.atSlice 1 (.tmp 23) (.tmp 25)) Option.none), (2, 12)), ((.mk (Option.some 27) (.load 1 Bool.false (.tmp 26)) Option.none), (2, 12)), ((.mk (Option.some 28)
  (.bin .add (.tmp 27) (.const (.string (ByteArray.mk #[32])))) Option.none), (2, 12)), ((.mk (Option.some 29) (.fieldAddr 1 (.tmp 5)) Option.none), (0, 12)), ((.mk (Option.some
  30) (.load 1 Bool.false (.tmp 29)) Option.none), (0, 12)), ((.mk (Option.some 31) (.bin .add (.tmp 28) (.tmp 30)) Option.none), (2, 12)), ((.mk (Option.some 32) (.bin .add (.tmp
  22) (.tmp 31)) Option.none), (2, 12)), ((.mk (Option.some 3) (.mv (.tmp 32)) Option.none), (2, 12))]) (.seq (.seq (.region [(.mk (Option.some 33) (.fieldAddr 0 (.tmp 5))
  Option.none), (.mk (Option.some 34) (.load 1 Bool.false (.tmp 33)) Option.none), (.mk (Option.some 35) (.bin .neq (.tmp 34) (.const (.int .i64 1))) Option.none), (.mk
  (Option.some 36) (.mv (.tmp 35)) Option.none), (.mk (Option.some 37) (.fieldAddr 0 (.tmp 5)) (Option.some (36, Bool.true))), (.mk (Option.some 38) (.load 1 Bool.false (.tmp 37))
  (Option.some (36, Bool.true))), (.mk (Option.some 39) (.bin .neq (.tmp 38) (.const (.int .i64 3))) (Option.some (36, Bool.true))), (.mk (Option.some 40) (.pick (.tmp 36) (.tmp
  39) (.const (.bool Bool.false))) Option.none)]) (.cond (.tmp 40) (.region [(.mk (Option.some 41) (.mv (.tmp 3)) Option.none), (.mk (Option.some 42) (.fieldAddr 2 (.tmp 5))
  Option.none), (.mk (Option.some 43) (.load 1 Bool.false (.tmp 42)) Option.none), (.mk (Option.some 44) (.call 21 [(.tmp 43)]) Option.none), (.mk (Option.some 45) (.bin .add
  (.const (.string (ByteArray.mk #[32]))) (.tmp 44)) Option.none), (.mk (Option.some 46) (.bin .add (.tmp 41) (.tmp 45)) Option.none), (.mk (Option.some 3) (.mv (.tmp 46))
  Option.none)]) .skip)) (.seq (.region [(.mk (Option.some 47) (.fieldAddr 0 (.tmp 5)) Option.none), (.mk (Option.some 48) (.load 1 Bool.false (.tmp 47)) Option.none), (.mk
  (Option.some 49) (.bin .eql (.tmp 48) (.const (.int .i64 5))) Option.none)]) (.cond (.tmp 49) (.region [(.mk (Option.some 50) (.mv (.tmp 3)) Option.none), (.mk (Option.some 51)
  (.fieldAddr 3 (.tmp 5)) Option.none), (.mk (Option.some 52) (.load 1 Bool.false (.tmp 51)) Option.none), (.mk (Option.some 53) (.call 21 [(.tmp 52)]) Option.none), (.mk
  (Option.some 54) (.bin .add (.const (.string (ByteArray.mk #[32]))) (.tmp 53)) Option.none), (.mk (Option.some 55) (.bin .add (.tmp 50) (.tmp 54)) Option.none), (.mk (Option.some
  3) (.mv (.tmp 55)) Option.none)]) .skip)))))))) (.region [(.mk (Option.some 56) (.bin .add (.tmp 8) (.const (.int .i64 1))) Option.none), (.mk (Option.some 8) (.mv (.tmp 56))
  Option.none)]))))))) (.seq (.region [(.mk (Option.some 57) (.mv (.tmp 3)) Option.none), (.mk (Option.some 2) (.mv (.tmp 57)) Option.none)]) .ret)))) 58 [(.tmp 2)])
def a8 : AFn :=
  (.mk (.seq (.region [(.mk (Option.some 2) (.mv (.const (.slice Option.none 0 0))) Option.none), (.mk (Option.some 3) (.mv (.const (.int .i64 0))) Option.none), (.mk (Option.some 4)
  (.mv (.const (.int .i64 0))) Option.none)]) (.seq (.seq (.region [(.mk (Option.some 10) (.mv (.tmp 0)) Option.none), (.mk (Option.some 11) (.call 22 [(.tmp 10)]) Option.none),
  (.mk (Option.some 12) (.len (.tmp 11)) Option.none), (.mk (Option.some 13) (.bin .eql (.tmp 12) (.const (.int .i64 0))) Option.none)]) (.cond (.tmp 13) (.seq (.region [(.mk
  (Option.some 2) (.mv (.const (.slice Option.none 0 0))) Option.none), (.mk (Option.some 3) (.mv (.const (.int .i64 0))) Option.none), (.mk (Option.some 4) (.mv (.const (.int .i64
  0))) Option.none)]) .ret) .skip)) (.seq (.region [(.mk (Option.some 5) (.mv (.const (.slice Option.none 0 0))) Option.none)]) (.seq (.seq (.region [(.mk (Option.some 14) (.mv
  (.tmp 0)) Option.none), (.mk (Option.some 15) (.call 23 [(.tmp 14), (.const (.string (ByteArray.mk #[59])))]) Option.none), (.mk (Option.some 16) (.len (.tmp 15)) Option.none),
  (.mk (Option.some 17) (.mv (.const (.int .i64 0))) Option.none)]) (.block 0 (.loop (.seq (.region [(.mk (Option.some 18) (.bin .lss (.tmp 17) (.tmp 16)) Option.none)]) (.seq
  (.cond (.tmp 18) .skip (.exit 0)) (.seq (.block 1 (.seq (.region [(.mk (Option.some 19) (.mv (.tmp 17)) Option.none), (.mk (Option.some 20) (.atSlice 1 (.tmp 15) (.tmp 17))
  Option.none), (.mk (Option.some 21) (.load 1 Bool.false (.tmp 20)) Option.none), (.mk (Option.some 6) (.mv (.tmp 19)) Option.none), (.mk (Option.some 7) (.mv (.tmp 21))
  Option.none)]) (.seq (.region [(.mk (Option.some 23) (.mv (.tmp 7)) Option.none), (.mk (Option.some 24) (.call 24 [(.tmp 23)]) Option.none), (.mk (Option.some 22) (.mv (.tmp 24))
  Option.none), (.mk (Option.some 25) (.extract (.tmp 22) 0) Option.none), (.mk (Option.some 26) (.extract (.tmp 22) 1) Option.none), (.mk (Option.some 8) (.alloc [(.int .i64 0),
  (.str []), (.int .i64 0), (.int .i64 0)]) Option.none), (.mk Option.none (.store 4 (.tmp 8) (.tmp 25)) Option.none), (.mk (Option.some 9) (.mv (.tmp 26)) Option.none)]) (.seq
  (.seq (.region [(.mk (Option.some 27) (.mv (.tmp 6)) Option.none), (.mk (Option.some 28) (.mv (.tmp 9)) Option.none), (.mk (Option.some 29) (.call 25 [(.tmp 27), (.tmp 28)])
  Option.none), (.mk (Option.some 9) (.mv (.tmp 29)) Option.none)]) (.seq (.region [(.mk (Option.some 30) (.mv (.tmp 9)) Option.none), (.mk (Option.some 31) (.eq (.iface Bool.true)
  Bool.true (.tmp 30) (.const .nilIface)) Option.none)]) (.cond (.tmp 31) (.seq (.region [(.mk (Option.some 32) (.mv (.tmp 9)) Option.none), (.mk (Option.some 33) (.call 26 [(.tmp
  32)]) Option.none), (.mk (Option.some 34) (.mv (.tmp 9)) Option.none), (.mk (Option.some 35) (.call 27 [(.tmp 34)]) Option.none), (.mk (Option.some 2) (.mv (.const (.slice
  Option.none 0 0))) Option.none), (.mk (Option.some 3) (.mv (.tmp 33)) Option.none), (.mk (Option.some 4) (.mv (.tmp 35)) Option.none)]) .ret) .skip))) (.region [(.mk (Option.some
  36) (.mv (.tmp 5)) Option.none), (.mk (Option.some 37) (.load 4 Bool.true (.tmp 8)) Option.none), (.mk (Option.some 38) (.buildSlice 1 4 [(.int .i64 0), (.str []), (.int .i64 0),
  (.int .i64 0)] [(0, (4, (.tmp 37)))]) Option.none), (.mk (Option.some 39) (.append Bool.false 4 40 (.tmp 36) (.tmp 38)) Option.none), (.mk (Option.some 5) (.mv (.tmp 39))
  Option.none)]))))) (.region [(.mk (Option.some 40) (.bin .add (.tmp 17) (.const (.int .i64 1))) Option.none), (.mk (Option.some 17) (.mv (.tmp 40)) Option.none)]))))))) (.seq
  (.seq (.region [(.mk (Option.some 41) (.mv (.tmp 5)) Option.none), (.mk (Option.some 42) (.len (.tmp 41)) Option.none), (.mk (Option.some 43) (.bin .gtr (.tmp 42) (.const (.int
  .i64 8))) Option.none)]) (.cond (.tmp 43) (.seq (.region [(.mk (Option.some 2) (.mv (.const (.slice Option.none 0 0))) Option.none), (.mk (Option.some 3) (.mv (.const (.int .i64
  0))) Option.none), (.mk (Option.some 4) (.mv (.const (.int .i64 7))) Option.none)]) .ret) .skip)) (.seq (.region [(.mk (Option.some 44) (.mv (.tmp 5)) Option.none), (.mk
  (Option.some 2) (.mv (.tmp 44)) Option.none), (.mk (Option.some 3) (.mv (.const (.int .i64 0))) Option.none), (.mk (Option.some 4) (.mv (.const (.int .i64 0))) Option.none)])
  .ret)))))) 45 [(.tmp 2), (.tmp 3), (.tmp 4)])
def a9 : AFn :=
  (.mk (.seq (.region [(.mk (Option.some 2) (.mv (.const (.slice Option.none 0 0))) Option.none), (.mk (Option.some 3) (.mv (.const (.int .i64 0))) Option.none), (.mk (Option.some 4)
  (.mv (.const (.int .i64 0))) Option.none)]) (.seq (.seq (.region [(.mk (Option.some 10) (.mv (.tmp 0)) Option.none), (.mk (Option.some 11) (.call 28 [(.tmp 10)]) Option.none),
  (.mk (Option.some 12) (.len (.tmp 11)) Option.none), (.mk (Option.some 13) (.bin .eql (.tmp 12) (.const (.int .i64 0))) Option.none)]) (.cond (.tmp 13) (.seq (.region [(.mk
  (Option.some 2) (.mv (.const (.slice Option.none 0 0))) Option.none), (.mk (Option.some 3) (.mv (.const (.int .i64 0))) Option.none), (.mk (Option.some 4) (.mv (.const (.int .i64
  0))) Option.none)]) .ret) .skip)) (.seq (.region [(.mk (Option.some 5) (.mv (.const (.slice Option.none 0 0))) Option.none)]) (.seq (.seq (.region [(.mk (Option.some 14) (.mv
  (.tmp 0)) Option.none), (.mk (Option.some 15) (.call 29 [(.tmp 14), (.const (.int .u8 59))]) Option.none), (.mk (Option.some 16) (.len (.tmp 15)) Option.none), (.mk (Option.some
  17) (.mv (.const (.int .i64 0))) Option.none)]) (.block 0 (.loop (.seq (.region [(.mk (Option.some 18) (.bin .lss (.tmp 17) (.tmp 16)) Option.none)]) (.seq (.cond (.tmp 18) .skip
  (.exit 0)) (.seq (.block 1 (.seq (.region [(.mk (Option.some 19) (.mv (.tmp 17)) Option.none), (.mk (Option.some 20) (.atSlice 1 (.tmp 15) (.tmp 17)) Option.none), (.mk
  (Option.some 21) (.load 1 Bool.false (.tmp 20)) Option.none), (.mk (Option.some 6) (.mv (.tmp 19)) Option.none), (.mk (Option.some 7) (.mv (.tmp 21)) Option.none)]) (.seq
  (.region [(.mk (Option.some 23) (.mv (.tmp 7)) Option.none), (.mk (Option.some 24) (.call 30 [(.tmp 23)]) Option.none), (.mk (Option.some 22) (.mv (.tmp 24)) Option.none), (.mk
  (Option.some 25) (.extract (.tmp 22) 0) Option.none), (.mk (Option.some 26) (.extract (.tmp 22) 1) Option.none), (.mk (Option.some 8) (.alloc [(.int .i64 0), (.str []), (.int
  .i64 0), (.int .i64 0)]) Option.none), (.mk Option.none (.store 4 (.tmp 8) (.tmp 25)) Option.none), (.mk (Option.some 9) (.mv (.tmp 26)) Option.none)]) (.seq (.seq (.region [(.mk
  (Option.some 27) (.mv (.tmp 9)) Option.none), (.mk (Option.some 28) (.un .not (.tmp 27)) Option.none)]) (.cond (.tmp 28) (.seq (.region [(.mk (Option.some 29) (.mv (.tmp 6))
  Option.none), (.mk (Option.some 2) (.mv (.const (.slice Option.none 0 0))) Option.none), (.mk (Option.some 3) (.mv (.tmp 29)) Option.none), (.mk (Option.some 4) (.mv (.const
  (.int .i64 6))) Option.none)]) .ret) .skip)) (.region [(.mk (Option.some 30) (.mv (.tmp 5)) Option.none), (.mk (Option.some 31) (.load 4 Bool.true (.tmp 8)) Option.none), (.mk
  (Option.some 32) (.buildSlice 1 4 [(.int .i64 0), (.str []), (.int .i64 0), (.int .i64 0)] [(0, (4, (.tmp 31)))]) Option.none), (.mk (Option.some 33) (.append Bool.false 4 40
  (.tmp 30) (.tmp 32)) Option.none), (.mk (Option.some 5) (.mv (.tmp 33)) Option.none)]))))) (.region [(.mk (Option.some 34) (.bin .add (.tmp 17) (.const (.int .i64 1)))
  Option.none), (.mk (Option.some 17) (.mv (.tmp 34)) Option.none)]))))))) (.seq (.seq (.region [(.mk (Option.some 35) (.mv (.tmp 5)) Option.none), (.mk (Option.some 36) (.len
  (.tmp 35)) Option.none), (.mk (Option.some 37) (.bin .gtr (.tmp 36) (.const (.int .i64 8))) Option.none)]) (.cond (.tmp 37) (.seq (.region [(.mk (Option.some 2) (.mv (.const
  (.slice Option.none 0 0))) Option.none), (.mk (Option.some 3) (.mv (.const (.int .i64 0))) Option.none), (.mk (Option.some 4) (.mv (.const (.int .i64 7))) Option.none)]) .ret)
  .skip)) (.seq (.region [(.mk (Option.some 38) (.mv (.tmp 5)) Option.none), (.mk (Option.some 2) (.mv (.tmp 38)) Option.none), (.mk (Option.some 3) (.mv (.const (.int .i64 0)))
  Option.none), (.mk (Option.some 4) (.mv (.const (.int .i64 0))) Option.none)]) .ret)))))) 39 [(.tmp 2), (.tmp 3), (.tmp 4)])
def a10 : AFn :=
  (.mk (.seq (.region [(.mk (Option.some 4) (.mv (.const (.bool Bool.false))) Option.none)]) (.seq (.seq (.region [(.mk (Option.some 6) (.mv (.tmp 0)) Option.none), (.mk (Option.some
  7) (.len (.tmp 6)) Option.none), (.mk (Option.some 8) (.mv (.tmp 1)) Option.none), (.mk (Option.some 9) (.len (.tmp 8)) Option.none), (.mk (Option.some 10) (.bin .neq (.tmp 7)
  (.tmp 9)) Option.none)]) (.cond (.tmp 10) (.seq (.region [(.mk (Option.some 4) (.mv (.const (.bool Bool.false))) Option.none)]) .ret) .skip)) (.seq (.seq (.region [(.mk
  (Option.some 11) (.mv (.tmp 0)) Option.none), (.mk (Option.some 12) (.len (.tmp 11)) Option.none), (.mk (Option.some 13) (.mv (.const (.int .i64 0))) Option.none)]) (.block 0
  (.loop (.seq (.region [(.mk (Option.some 14) (.bin .lss (.tmp 13) (.tmp 12)) Option.none)]) (.seq (.cond (.tmp 14) .skip (.exit 0)) (.seq (.block 1 (.seq (.region [(.mk
  (Option.some 15) (.mv (.tmp 13)) Option.none), (.mk (Option.some 5) (.mv (.tmp 15)) Option.none)]) (.seq (.draws [((.mk (Option.some 16) (.mv (.tmp 0)) Option.none), (0, 9)),
  ((.mk (Option.some 17) (.mv (.tmp 5)) Option.none), (0, 9)), ((.mk (Option.some 18) (.atSlice 4 (.tmp 16) (.tmp 17)) Option.none), (0, 9)), ((.mk (Option.some 19) (.load 4
  Bool.true (.tmp 18)) Option.none), (0, 9)), ((.mk (Option.some 20) (.mv (.tmp 1)) Option.none), (0, 9)), ((.mk (Option.some 21) (.mv (.tmp 5)) Option.none), (0, 9)), ((.mk
  (Option.some 22) (.atSlice 4 (.tmp 20) (.tmp 21)) Option.none), (0, 9)), ((.mk (Option.some 23) (.load 4 Bool.true (.tmp 22)) Option.none), (0, 9)), ((.mk (Option.some 24)
  (.eqAgg Bool.true [(.int .i64), .str, (.int .i64), (.int .i64)] (.tmp 19) (.tmp 23)) Option.none), (0, 9))]) (.cond (.tmp 24) (.seq (.region [(.mk (Option.some 4) (.mv (.const
  (.bool Bool.false))) Option.none)]) .ret) .skip)))) (.region [(.mk (Option.some 25) (.bin .add (.tmp 13) (.const (.int .i64 1))) Option.none), (.mk (Option.some 13) (.mv (.tmp
  25)) Option.none)]))))))) (.seq (.region [(.mk (Option.some 4) (.mv (.const (.bool Bool.true))) Option.none)]) .ret)))) 26 [(.tmp 4)])
def a11 : AFn :=
  (.mk (.seq (.region [(.mk (Option.some 2) (.mv (.const (.int .i64 0))) Option.none)]) (.seq (.seq (.region [(.mk (Option.some 5) (.mv (.tmp 0)) Option.none), (.mk (Option.some 6)
  (.len (.tmp 5)) Option.none), (.mk (Option.some 7) (.bin .gtr (.tmp 6) (.const (.int .i64 8))) Option.none)]) (.cond (.tmp 7) (.seq (.region [(.mk (Option.some 2) (.mv (.const
  (.int .i64 7))) Option.none)]) .ret) .skip)) (.seq (.seq (.region [(.mk (Option.some 8) (.mv (.tmp 0)) Option.none), (.mk (Option.some 9) (.len (.tmp 8)) Option.none), (.mk
  (Option.some 10) (.mv (.const (.int .i64 0))) Option.none)]) (.block 0 (.loop (.seq (.region [(.mk (Option.some 11) (.bin .lss (.tmp 10) (.tmp 9)) Option.none)]) (.seq (.cond
  (.tmp 11) .skip (.exit 0)) (.seq (.block 1 (.seq (.region [(.mk (Option.some 12) (.atSlice 4 (.tmp 8) (.tmp 10)) Option.none), (.mk (Option.some 13) (.load 4 Bool.true (.tmp 12))
  Option.none), (.mk (Option.some 4) (.alloc [(.int .i64 0), (.str []), (.int .i64 0), (.int .i64 0)]) Option.none), (.mk Option.none (.store 4 (.tmp 4) (.tmp 13)) Option.none)])
  (.seq (.region [(.mk (Option.some 14) (.load 4 Bool.true (.tmp 4)) Option.none), (.mk (Option.some 15) (.call 19 [(.tmp 14)]) Option.none), (.mk (Option.some 16) (.un .not (.tmp
  15)) Option.none), (.mk (Option.some 17) (.mv (.tmp 16)) Option.none), (.mk (Option.some 18) (.fieldAddr 1 (.tmp 4)) (Option.some (17, Bool.false))), (.mk (Option.some 19) (.load
  1 Bool.false (.tmp 18)) (Option.some (17, Bool.false))), (.mk (Option.some 20) (.call 31 [(.tmp 19)]) (Option.some (17, Bool.false))), (.mk (Option.some 21) (.un .not (.tmp 20))
  (Option.some (17, Bool.false))), (.mk (Option.some 22) (.pick (.tmp 17) (.const (.bool Bool.true)) (.tmp 21)) Option.none)]) (.cond (.tmp 22) (.seq (.region [(.mk (Option.some 2)
  (.mv (.const (.int .i64 2))) Option.none)]) .ret) .skip)))) (.region [(.mk (Option.some 23) (.bin .add (.tmp 10) (.const (.int .i64 1))) Option.none), (.mk (Option.some 10) (.mv
  (.tmp 23)) Option.none)]))))))) (.seq (.region [(.mk (Option.some 2) (.mv (.const (.int .i64 0))) Option.none)]) .ret)))) 24 [(.tmp 2)])
def a12 : AFn :=
  (.mk (.seq (.region [(.mk (Option.some 0) (.mv (.const (.bool Bool.false))) Option.none)]) (.seq (.region [(.mk (Option.some 11) (.call 8 [(.const (.string (ByteArray.mk #[97, 100,
  100, 32, 120, 32, 53, 59, 32, 109, 105, 110, 32, 121, 32, 45, 51, 32, 48])))]) Option.none), (.mk (Option.some 10) (.mv (.tmp 11)) Option.none), (.mk (Option.some 12) (.extract
  (.tmp 10) 0) Option.none), (.mk (Option.some 13) (.extract (.tmp 10) 1) Option.none), (.mk (Option.some 14) (.extract (.tmp 10) 2) Option.none), (.mk (Option.some 1) (.mv (.tmp
  12)) Option.none), (.mk (Option.some 2) (.mv (.tmp 13)) Option.none), (.mk (Option.some 3) (.mv (.tmp 14)) Option.none)]) (.seq (.seq (.region [(.mk (Option.some 15) (.mv (.tmp
  3)) Option.none), (.mk (Option.some 16) (.bin .neq (.tmp 15) (.const (.int .i64 0))) Option.none), (.mk (Option.some 17) (.mv (.tmp 16)) Option.none), (.mk (Option.some 18) (.mv
  (.tmp 2)) (Option.some (17, Bool.false))), (.mk (Option.some 19) (.bin .neq (.tmp 18) (.const (.int .i64 0))) (Option.some (17, Bool.false))), (.mk (Option.some 20) (.pick (.tmp
  17) (.const (.bool Bool.true)) (.tmp 19)) Option.none), (.mk (Option.some 21) (.mv (.tmp 20)) Option.none), (.mk (Option.some 22) (.mv (.tmp 1)) (Option.some (21, Bool.false))),
  (.mk (Option.some 23) (.len (.tmp 22)) (Option.some (21, Bool.false))), (.mk (Option.some 24) (.bin .neq (.tmp 23) (.const (.int .i64 2))) (Option.some (21, Bool.false))), (.mk
  (Option.some 25) (.pick (.tmp 21) (.const (.bool Bool.true)) (.tmp 24)) Option.none), (.mk (Option.some 26) (.mv (.tmp 25)) Option.none), (.mk (Option.some 27) (.mv (.tmp 1))
  (Option.some (26, Bool.false))), (.mk (Option.some 28) (.atSlice 4 (.tmp 27) (.const (.int .i64 1))) (Option.some (26, Bool.false))), (.mk (Option.some 29) (.load 4 Bool.true
  (.tmp 28)) (Option.some (26, Bool.false))), (.mk (Option.some 30) (.build [(.int .i64 0), (.str []), (.int .i64 0), (.int .i64 0)] [(0, (1, (.const (.int .i64 5)))), (1, (1,
  (.const (.string (ByteArray.mk #[121]))))), (2, (1, (.const (.int .i64 (-3)))))]) (Option.some (26, Bool.false))), (.mk (Option.some 31) (.eqAgg Bool.true [(.int .i64), .str,
  (.int .i64), (.int .i64)] (.tmp 29) (.tmp 30)) (Option.some (26, Bool.false))), (.mk (Option.some 32) (.pick (.tmp 26) (.const (.bool Bool.true)) (.tmp 31)) Option.none)]) (.cond
  (.tmp 32) (.seq (.region [(.mk (Option.some 0) (.mv (.const (.bool Bool.false))) Option.none)]) .ret) .skip)) (.seq (.region [(.mk (Option.some 34) (.mv (.tmp 1)) Option.none),
  (.mk (Option.some 35) (.atSlice 4 (.tmp 34) (.const (.int .i64 1))) Option.none), (.mk (Option.some 36) (.load 4 Bool.true (.tmp 35)) Option.none), (.mk (Option.some 37) (.call
  32 [(.tmp 36), (.const (.int .i64 2)), (.const (.bool Bool.true))]) Option.none), (.mk (Option.some 33) (.mv (.tmp 37)) Option.none), (.mk (Option.some 38) (.extract (.tmp 33) 0)
  Option.none), (.mk (Option.some 39) (.extract (.tmp 33) 1) Option.none), (.mk (Option.some 40) (.extract (.tmp 33) 2) Option.none), (.mk (Option.some 41) (.extract (.tmp 33) 3)
  Option.none), (.mk (Option.some 4) (.mv (.tmp 38)) Option.none), (.mk (Option.some 5) (.mv (.tmp 39)) Option.none), (.mk (Option.some 6) (.mv (.tmp 40)) Option.none), (.mk
  (Option.some 7) (.mv (.tmp 41)) Option.none)]) (.seq (.region [(.mk (Option.some 43) (.mv (.tmp 1)) Option.none), (.mk (Option.some 44) (.call 33 [(.tmp 43)]) Option.none), (.mk
  (Option.some 42) (.mv (.tmp 44)) Option.none), (.mk (Option.some 45) (.extract (.tmp 42) 0) Option.none), (.mk (Option.some 46) (.extract (.tmp 42) 1) Option.none), (.mk
  (Option.some 8) (.mv (.tmp 45)) Option.none), (.mk (Option.some 9) (.mv (.tmp 46)) Option.none)]) (.seq (.region [(.mk (Option.some 47) (.mv (.tmp 4)) Option.none), (.mk
  (Option.some 48) (.bin .eql (.tmp 47) (.const (.int .i64 2))) Option.none), (.mk (Option.some 49) (.mv (.tmp 48)) Option.none), (.mk (Option.some 50) (.mv (.tmp 5)) (Option.some
  (49, Bool.true))), (.mk (Option.some 51) (.pick (.tmp 49) (.tmp 50) (.const (.bool Bool.false))) Option.none), (.mk (Option.some 52) (.mv (.tmp 51)) Option.none), (.mk
  (Option.some 53) (.mv (.tmp 6)) (Option.some (52, Bool.true))), (.mk (Option.some 54) (.bin .eql (.tmp 53) (.const (.int .i64 0))) (Option.some (52, Bool.true))), (.mk
  (Option.some 55) (.pick (.tmp 52) (.tmp 54) (.const (.bool Bool.false))) Option.none), (.mk (Option.some 56) (.mv (.tmp 55)) Option.none), (.mk (Option.some 57) (.mv (.tmp 7))
  (Option.some (56, Bool.true))), (.mk (Option.some 58) (.bin .eql (.tmp 57) (.const (.int .i64 24))) (Option.some (56, Bool.true))), (.mk (Option.some 59) (.pick (.tmp 56) (.tmp
  58) (.const (.bool Bool.false))) Option.none), (.mk (Option.some 60) (.mv (.tmp 59)) Option.none), (.mk (Option.some 61) (.mv (.tmp 9)) (Option.some (60, Bool.true))), (.mk
  (Option.some 62) (.pick (.tmp 60) (.tmp 61) (.const (.bool Bool.false))) Option.none), (.mk (Option.some 63) (.mv (.tmp 62)) Option.none), (.mk (Option.some 64) (.mv (.tmp 8))
  (Option.some (63, Bool.true))), (.mk (Option.some 65) (.call 6 [(.tmp 64)]) (Option.some (63, Bool.true))), (.mk (Option.some 66) (.bin .eql (.tmp 65) (.const (.string
  (ByteArray.mk #[98, 97, 99, 107, 32, 121, 32, 51, 59, 32, 98, 97, 99, 107, 32, 120, 32, 45, 53])))) (Option.some (63, Bool.true))), (.mk (Option.some 67) (.pick (.tmp 63) (.tmp
  66) (.const (.bool Bool.false))) Option.none), (.mk (Option.some 68) (.mv (.tmp 67)) Option.none), (.mk (Option.some 69) (.mv (.tmp 1)) (Option.some (68, Bool.true))), (.mk
  (Option.some 70) (.mv (.tmp 8)) (Option.some (68, Bool.true))), (.mk (Option.some 71) (.call 34 [(.tmp 69), (.tmp 70)]) (Option.some (68, Bool.true))), (.mk (Option.some 72)
  (.pick (.tmp 68) (.tmp 71) (.const (.bool Bool.false))) Option.none), (.mk (Option.some 0) (.mv (.tmp 72)) Option.none)]) .ret)))))) 73 [(.tmp 0)])
def a17 : AFn :=
  (.mk (.seq (.region [(.mk (Option.some 1) (.box (.tmp 0)) Option.none), (.mk (Option.some 2) (.mv (.const (.string (ByteArray.mk #[])))) Option.none)]) (.seq (.seq (.region [(.mk
  (Option.some 4) (.load 4 Bool.true (.tmp 1)) Option.none), (.mk (Option.some 5) (.call 43 [(.tmp 4)]) Option.none), (.mk (Option.some 6) (.un .not (.tmp 5)) Option.none)]) (.cond
  (.tmp 6) (.seq (.region [(.mk (Option.some 2) (.mv (.const (.string (ByteArray.mk #[63])))) Option.none)]) .ret) .skip)) (.seq (.draws [((.mk (Option.some 7) (.fieldAddr 0 (.tmp
  1)) Option.none), (0, 2)), ((.mk (Option.some 8) (.load 1 Bool.false (.tmp 7)) Option.none), (0, 2)), ((.mk (Option.some 9) (.call 54 [(.tmp 8)]) Option.none), (0, 8)), ((.mk
  (Option.some 10) (.bin .add (.tmp 9) (.const (.string (ByteArray.mk #[32])))) Option.none), (3, 8)), ((.mk (Option.some 11) (.fieldAddr 1 (.tmp 1)) Option.none), (0, 8)), ((.mk
  (Option.some 12) (.load 1 Bool.false (.tmp 11)) Option.none), (0, 8)), ((.mk (Option.some 13) (.bin .add (.tmp 10) (.tmp 12)) Option.none), (3, 8)), ((.mk (Option.some 3) (.mv
  (.tmp 13)) Option.none), (3, 8))]) (.seq (.seq (.region [(.mk (Option.some 14) (.fieldAddr 0 (.tmp 1)) Option.none), (.mk (Option.some 15) (.load 1 Bool.false (.tmp 14))
  Option.none)]) (.block 0 (.seq (.region [(.mk (Option.some 17) (.bin .eql (.tmp 15) (.const (.int .i64 5))) Option.none), (.mk (Option.some 16) (.mv (.tmp 17)) Option.none)])
  (.cond (.tmp 16) (.seq (.draws [((.mk (Option.some 18) (.mv (.tmp 3)) Option.none), (0, 12)), ((.mk (Option.some 19) (.bin .add (.tmp 18) (.const (.string (ByteArray.mk #[32]))))
  Option.none), (0, 12)), ((.mk (Option.some 20) (.fieldAddr 2 (.tmp 1)) Option.none), (0, 4)), ((.mk (Option.some 21) (.load 1 Bool.false (.tmp 20)) Option.none), (0, 4)), ((.mk
  (Option.some 22) (.call 55 [(.tmp 21), (.const (.int .i64 10))]) Option.none), (0, 9)), ((.mk (Option.some 23) (.bin .add (.tmp 19) (.tmp 22)) Option.none), (5, 12)), ((.mk
  (Option.some 24) (.bin .add (.tmp 23) (.const (.string (ByteArray.mk #[32])))) Option.none), (5, 12)), ((.mk (Option.some 25) (.fieldAddr 3 (.tmp 1)) Option.none), (0, 9)), ((.mk
  (Option.some 26) (.load 1 Bool.false (.tmp 25)) Option.none), (0, 9)), ((.mk (Option.some 27) (.call 55 [(.tmp 26), (.const (.int .i64 10))]) Option.none), (5, 12)), ((.mk
  (Option.some 28) (.bin .add (.tmp 24) (.tmp 27)) Option.none), (10, 12)), ((.mk (Option.some 2) (.mv (.tmp 28)) Option.none), (10, 12))]) .ret) (.seq (.seq (.region [(.mk
  (Option.some 30) (.bin .eql (.tmp 15) (.const (.int .i64 2))) Option.none), (.mk (Option.some 29) (.mv (.tmp 30)) Option.none)]) (.cond (.tmp 29) .skip (.seq (.region [(.mk
  (Option.some 31) (.bin .eql (.tmp 15) (.const (.int .i64 4))) Option.none), (.mk (Option.some 29) (.mv (.tmp 31)) Option.none)]) (.cond (.tmp 29) .skip (.region [(.mk
  (Option.some 32) (.bin .eql (.tmp 15) (.const (.int .i64 6))) Option.none), (.mk (Option.some 29) (.mv (.tmp 32)) Option.none)]))))) (.cond (.tmp 29) (.seq (.region [(.mk
  (Option.some 33) (.mv (.tmp 3)) Option.none), (.mk (Option.some 34) (.bin .add (.tmp 33) (.const (.string (ByteArray.mk #[32])))) Option.none), (.mk (Option.some 35) (.fieldAddr
  2 (.tmp 1)) Option.none), (.mk (Option.some 36) (.load 1 Bool.false (.tmp 35)) Option.none), (.mk (Option.some 37) (.call 55 [(.tmp 36), (.const (.int .i64 10))]) Option.none),
  (.mk (Option.some 38) (.bin .add (.tmp 34) (.tmp 37)) Option.none), (.mk (Option.some 2) (.mv (.tmp 38)) Option.none)]) .ret) .skip)))))) (.seq (.region [(.mk (Option.some 39)
  (.mv (.tmp 3)) Option.none), (.mk (Option.some 2) (.mv (.tmp 39)) Option.none)]) .ret))))) 40 [(.tmp 2)])
def a19 : AFn :=
  (.mk (.seq (.region [(.mk (Option.some 1) (.box (.tmp 0)) Option.none), (.mk (Option.some 2) (.mv (.const (.bool Bool.false))) Option.none)]) (.seq (.seq (.region [(.mk
  (Option.some 3) (.fieldAddr 0 (.tmp 1)) Option.none), (.mk (Option.some 4) (.load 1 Bool.false (.tmp 3)) Option.none), (.mk (Option.some 5) (.bin .lss (.tmp 4) (.const (.int .i64
  1))) Option.none), (.mk (Option.some 6) (.mv (.tmp 5)) Option.none), (.mk (Option.some 7) (.fieldAddr 0 (.tmp 1)) (Option.some (6, Bool.false))), (.mk (Option.some 8) (.load 1
  Bool.false (.tmp 7)) (Option.some (6, Bool.false))), (.mk (Option.some 9) (.bin .gtr (.tmp 8) (.const (.int .i64 6))) (Option.some (6, Bool.false))), (.mk (Option.some 10) (.pick
  (.tmp 6) (.const (.bool Bool.true)) (.tmp 9)) Option.none), (.mk (Option.some 11) (.mv (.tmp 10)) Option.none), (.mk (Option.some 12) (.fieldAddr 3 (.tmp 1)) (Option.some (11,
  Bool.false))), (.mk (Option.some 13) (.load 1 Bool.false (.tmp 12)) (Option.some (11, Bool.false))), (.mk (Option.some 14) (.bin .neq (.tmp 13) (.const (.int .i64 0)))
  (Option.some (11, Bool.false))), (.mk (Option.some 15) (.mv (.tmp 14)) (Option.some (11, Bool.false))), (.mk (Option.some 16) (.fieldAddr 0 (.tmp 1)) (Option.some (15,
  Bool.true))), (.mk (Option.some 17) (.load 1 Bool.false (.tmp 16)) (Option.some (15, Bool.true))), (.mk (Option.some 18) (.bin .neq (.tmp 17) (.const (.int .i64 5))) (Option.some
  (15, Bool.true))), (.mk (Option.some 19) (.pick (.tmp 15) (.tmp 18) (.const (.bool Bool.false))) (Option.some (11, Bool.false))), (.mk (Option.some 20) (.pick (.tmp 11) (.const
  (.bool Bool.true)) (.tmp 19)) Option.none), (.mk (Option.some 21) (.mv (.tmp 20)) Option.none), (.mk (Option.some 22) (.fieldAddr 2 (.tmp 1)) (Option.some (21, Bool.false))),
  (.mk (Option.some 23) (.load 1 Bool.false (.tmp 22)) (Option.some (21, Bool.false))), (.mk (Option.some 24) (.bin .neq (.tmp 23) (.const (.int .i64 0))) (Option.some (21,
  Bool.false))), (.mk (Option.some 25) (.mv (.tmp 24)) (Option.some (21, Bool.false))), (.mk (Option.some 26) (.fieldAddr 0 (.tmp 1)) (Option.some (25, Bool.true))), (.mk
  (Option.some 27) (.load 1 Bool.false (.tmp 26)) (Option.some (25, Bool.true))), (.mk (Option.some 28) (.bin .eql (.tmp 27) (.const (.int .i64 1))) (Option.some (25, Bool.true))),
  (.mk (Option.some 29) (.mv (.tmp 28)) (Option.some (25, Bool.true))), (.mk (Option.some 30) (.fieldAddr 0 (.tmp 1)) (Option.some (29, Bool.false))), (.mk (Option.some 31) (.load
  1 Bool.false (.tmp 30)) (Option.some (29, Bool.false))), (.mk (Option.some 32) (.bin .eql (.tmp 31) (.const (.int .i64 3))) (Option.some (29, Bool.false))), (.mk (Option.some 33)
  (.pick (.tmp 29) (.const (.bool Bool.true)) (.tmp 32)) (Option.some (25, Bool.true))), (.mk (Option.some 34) (.pick (.tmp 25) (.tmp 33) (.const (.bool Bool.false))) (Option.some
  (21, Bool.false))), (.mk (Option.some 35) (.pick (.tmp 21) (.const (.bool Bool.true)) (.tmp 34)) Option.none)]) (.cond (.tmp 35) (.seq (.region [(.mk (Option.some 2) (.mv (.const
  (.bool Bool.false))) Option.none)]) .ret) .skip)) (.seq (.region [(.mk (Option.some 36) (.fieldAddr 1 (.tmp 1)) Option.none), (.mk (Option.some 37) (.load 1 Bool.false (.tmp 36))
  Option.none), (.mk (Option.some 38) (.call 31 [(.tmp 37)]) Option.none), (.mk (Option.some 39) (.mv (.tmp 38)) Option.none), (.mk (Option.some 40) (.fieldAddr 1 (.tmp 1))
  (Option.some (39, Bool.false))), (.mk (Option.some 41) (.load 1 Bool.false (.tmp 40)) (Option.some (39, Bool.false))), (.mk (Option.some 42) (.lenStr (.tmp 41)) (Option.some (39,
  Bool.false))), (.mk (Option.some 43) (.bin .leq (.tmp 42) (.const (.int .i64 16))) (Option.some (39, Bool.false))), (.mk (Option.some 44) (.mv (.tmp 43)) (Option.some (39,
  Bool.false))), (.mk (Option.some 45) (.fieldAddr 1 (.tmp 1)) (Option.some (44, Bool.true))), (.mk (Option.some 46) (.load 1 Bool.false (.tmp 45)) (Option.some (44, Bool.true))),
  (.mk (Option.some 47) (.lenStr (.tmp 46)) (Option.some (44, Bool.true))), (.mk (Option.some 48) (.bin .gtr (.tmp 47) (.const (.int .i64 1))) (Option.some (44, Bool.true))), (.mk
  (Option.some 49) (.pick (.tmp 44) (.tmp 48) (.const (.bool Bool.false))) (Option.some (39, Bool.false))), (.mk (Option.some 50) (.mv (.tmp 49)) (Option.some (39, Bool.false))),
  (.mk (Option.some 51) (.fieldAddr 1 (.tmp 1)) (Option.some (50, Bool.true))), (.mk (Option.some 52) (.load 1 Bool.false (.tmp 51)) (Option.some (50, Bool.true))), (.mk
  (Option.some 53) (.byteAt (.tmp 52) (.const (.int .i64 0))) (Option.some (50, Bool.true))), (.mk (Option.some 54) (.bin .eql (.tmp 53) (.const (.int .u8 126))) (Option.some (50,
  Bool.true))), (.mk (Option.some 55) (.pick (.tmp 50) (.tmp 54) (.const (.bool Bool.false))) (Option.some (39, Bool.false))), (.mk (Option.some 56) (.mv (.tmp 55)) (Option.some
  (39, Bool.false))), (.mk (Option.some 57) (.fieldAddr 1 (.tmp 1)) (Option.some (56, Bool.true))), (.mk (Option.some 58) (.load 1 Bool.false (.tmp 57)) (Option.some (56,
  Bool.true))), (.mk (Option.some 59) (.cutStr (.tmp 58) (Option.some (.const (.int .i64 1))) Option.none) (Option.some (56, Bool.true))), (.mk (Option.some 60) (.call 59 [(.tmp
  59)]) (Option.some (56, Bool.true))), (.mk (Option.some 61) (.pick (.tmp 56) (.tmp 60) (.const (.bool Bool.false))) (Option.some (39, Bool.false))), (.mk (Option.some 62) (.pick
  (.tmp 39) (.const (.bool Bool.true)) (.tmp 61)) Option.none), (.mk (Option.some 2) (.mv (.tmp 62)) Option.none)]) .ret))) 63 [(.tmp 2)])
def a20 : AFn :=
  (.mk (.seq (.region [(.mk (Option.some 0) (.mv (.const (.slice Option.none 0 0))) Option.none)]) (.seq (.region [(.mk (Option.some 1) (.buildSlice 7 1 [(.str []), (.str []), (.str
  []), (.str []), (.str []), (.str []), (.str [])] [(0, (1, (.const (.string (ByteArray.mk #[]))))), (1, (1, (.const (.string (ByteArray.mk #[103, 101, 116]))))), (2, (1, (.const
  (.string (ByteArray.mk #[112, 117, 116]))))), (3, (1, (.const (.string (ByteArray.mk #[100, 101, 108]))))), (4, (1, (.const (.string (ByteArray.mk #[97, 100, 100]))))), (5, (1,
  (.const (.string (ByteArray.mk #[109, 105, 110]))))), (6, (1, (.const (.string (ByteArray.mk #[98, 97, 99, 107])))))]) Option.none), (.mk (Option.some 0) (.mv (.tmp 1))
  Option.none)]) .ret)) 2 [(.tmp 0)])
def a21 : AFn :=
  (.mk (.seq (.region [(.mk (Option.some 2) (.mv (.const (.string (ByteArray.mk #[])))) Option.none)]) (.seq (.seq (.region [(.mk (Option.some 3) (.mv (.tmp 0)) Option.none), (.mk
  (Option.some 4) (.bin .lss (.tmp 3) (.const (.int .i64 0))) Option.none)]) (.cond (.tmp 4) (.seq (.region [(.mk (Option.some 5) (.mv (.tmp 0)) Option.none), (.mk (Option.some 6)
  (.bin .add (.tmp 5) (.const (.int .i64 1))) Option.none), (.mk (Option.some 7) (.un .neg (.tmp 6)) Option.none), (.mk (Option.some 8) (.conv .u64 (.tmp 7)) Option.none), (.mk
  (Option.some 9) (.bin .add (.tmp 8) (.const (.int .u64 1))) Option.none), (.mk (Option.some 10) (.call 60 [(.tmp 9)]) Option.none), (.mk (Option.some 11) (.bin .add (.const
  (.string (ByteArray.mk #[45]))) (.tmp 10)) Option.none), (.mk (Option.some 2) (.mv (.tmp 11)) Option.none)]) .ret) .skip)) (.seq (.region [(.mk (Option.some 12) (.mv (.tmp 0))
  Option.none), (.mk (Option.some 13) (.conv .u64 (.tmp 12)) Option.none), (.mk (Option.some 14) (.call 60 [(.tmp 13)]) Option.none), (.mk (Option.some 2) (.mv (.tmp 14))
  Option.none)]) .ret))) 15 [(.tmp 2)])
def a22 : AFn :=
  (.mk (.seq (.region [(.mk (Option.some 2) (.mv (.const (.slice Option.none 0 0))) Option.none)]) (.seq (.region [(.mk (Option.some 3) (.mv (.const (.slice Option.none 0 0)))
  Option.none)]) (.seq (.seq (.region [(.mk (Option.some 6) (.mv (.tmp 0)) Option.none), (.mk (Option.some 7) (.call 23 [(.tmp 6), (.const (.string (ByteArray.mk #[32])))])
  Option.none), (.mk (Option.some 8) (.len (.tmp 7)) Option.none), (.mk (Option.some 9) (.mv (.const (.int .i64 0))) Option.none)]) (.block 0 (.loop (.seq (.region [(.mk
  (Option.some 10) (.bin .lss (.tmp 9) (.tmp 8)) Option.none)]) (.seq (.cond (.tmp 10) .skip (.exit 0)) (.seq (.block 1 (.seq (.region [(.mk (Option.some 11) (.atSlice 1 (.tmp 7)
  (.tmp 9)) Option.none), (.mk (Option.some 12) (.load 1 Bool.false (.tmp 11)) Option.none), (.mk (Option.some 5) (.mv (.tmp 12)) Option.none)]) (.seq (.region [(.mk (Option.some
  13) (.mv (.tmp 5)) Option.none), (.mk (Option.some 14) (.bin .neq (.tmp 13) (.const (.string (ByteArray.mk #[])))) Option.none)]) (.cond (.tmp 14) (.region [(.mk (Option.some 15)
  (.mv (.tmp 3)) Option.none), (.mk (Option.some 16) (.mv (.tmp 5)) Option.none), (.mk (Option.some 17) (.buildSlice 1 1 [(.str [])] [(0, (1, (.tmp 16)))]) Option.none), (.mk
  (Option.some 18) (.append Bool.false 1 16 (.tmp 15) (.tmp 17)) Option.none), (.mk (Option.some 3) (.mv (.tmp 18)) Option.none)]) .skip)))) (.region [(.mk (Option.some 19) (.bin
  .add (.tmp 9) (.const (.int .i64 1))) Option.none), (.mk (Option.some 9) (.mv (.tmp 19)) Option.none)]))))))) (.seq (.region [(.mk (Option.some 20) (.mv (.tmp 3)) Option.none),
  (.mk (Option.some 2) (.mv (.tmp 20)) Option.none)]) .ret)))) 21 [(.tmp 2)])
def a23 : AFn :=
  (.mk (.seq (.region [(.mk (Option.some 4) (.mv (.const (.slice Option.none 0 0))) Option.none)]) (.seq (.region [(.mk (Option.some 5) (.mv (.tmp 0)) Option.none), (.mk (Option.some
  6) (.mv (.tmp 1)) Option.none), (.mk (Option.some 7) (.call 61 [(.tmp 5), (.tmp 6), (.const (.int .i64 0)), (.const (.int .i64 (-1)))]) Option.none), (.mk (Option.some 4) (.mv
  (.tmp 7)) Option.none)]) .ret)) 8 [(.tmp 4)])
def a24 : AFn :=
  (.mk (.seq (.region [(.mk (Option.some 2) (.alloc [(.int .i64 0), (.str []), (.int .i64 0), (.int .i64 0)]) Option.none), (.mk (Option.some 3) (.mv (.const .nilIface))
  Option.none)]) (.seq (.region [(.mk (Option.some 9) (.mv (.tmp 0)) Option.none), (.mk (Option.some 10) (.call 22 [(.tmp 9)]) Option.none), (.mk (Option.some 4) (.mv (.tmp 10))
  Option.none)]) (.seq (.region [(.mk (Option.some 11) (.build [(.int .i64 0), (.str []), (.int .i64 0), (.int .i64 0)] []) Option.none), (.mk (Option.some 5) (.alloc [(.int .i64
  0), (.str []), (.int .i64 0), (.int .i64 0)]) Option.none), (.mk Option.none (.store 4 (.tmp 5) (.tmp 11)) Option.none)]) (.seq (.seq (.region [(.mk (Option.some 6) (.mv (.const
  (.int .i64 1))) Option.none)]) (.block 0 (.loop (.seq (.seq (.region [(.mk (Option.some 12) (.mv (.tmp 6)) Option.none), (.mk (Option.some 13) (.bin .leq (.tmp 12) (.const (.int
  .i64 6))) Option.none), (.mk (Option.some 14) (.mv (.tmp 13)) Option.none), (.mk (Option.some 15) (.mv (.tmp 4)) (Option.some (14, Bool.true))), (.mk (Option.some 16) (.len (.tmp
  15)) (Option.some (14, Bool.true))), (.mk (Option.some 17) (.bin .gtr (.tmp 16) (.const (.int .i64 0))) (Option.some (14, Bool.true))), (.mk (Option.some 18) (.pick (.tmp 14)
  (.tmp 17) (.const (.bool Bool.false))) Option.none)]) (.cond (.tmp 18) .skip (.exit 0))) (.seq (.block 1 (.seq (.draws [((.mk (Option.some 21) (.mv (.tmp 6)) Option.none), (0,
  1)), ((.mk (Option.some 22) (.call 54 [(.tmp 21)]) Option.none), (0, 6)), ((.mk (Option.some 23) (.mv (.tmp 4)) Option.none), (0, 6)), ((.mk (Option.some 24) (.atSlice 1 (.tmp
  23) (.const (.int .i64 0))) Option.none), (0, 6)), ((.mk (Option.some 25) (.load 1 Bool.false (.tmp 24)) Option.none), (0, 6)), ((.mk (Option.some 26) (.bin .eql (.tmp 22) (.tmp
  25)) Option.none), (2, 6))]) (.cond (.tmp 26) (.region [(.mk (Option.some 27) (.mv (.tmp 6)) Option.none), (.mk (Option.some 28) (.fieldAddr 0 (.tmp 5)) Option.none), (.mk
  Option.none (.store 1 (.tmp 28) (.tmp 27)) Option.none)]) .skip))) (.region [(.mk (Option.some 19) (.mv (.tmp 6)) Option.none), (.mk (Option.some 20) (.bin .add (.tmp 19) (.const
  (.int .i64 1))) Option.none), (.mk (Option.some 6) (.mv (.tmp 20)) Option.none)])))))) (.seq (.region [(.mk (Option.some 7) (.mv (.const .nilIface)) Option.none), (.mk
  (Option.some 8) (.mv (.const .nilIface)) Option.none)]) (.seq (.block 2 (.seq (.block 6 (.seq (.block 5 (.seq (.block 4 (.seq (.block 3 (.seq (.seq (.seq (.region [(.mk
  (Option.some 30) (.fieldAddr 0 (.tmp 5)) Option.none), (.mk (Option.some 31) (.load 1 Bool.false (.tmp 30)) Option.none), (.mk (Option.some 32) (.bin .eql (.tmp 31) (.const (.int
  .i64 5))) Option.none), (.mk (Option.some 33) (.mv (.tmp 32)) Option.none), (.mk (Option.some 34) (.mv (.tmp 4)) (Option.some (33, Bool.true))), (.mk (Option.some 35) (.len (.tmp
  34)) (Option.some (33, Bool.true))), (.mk (Option.some 36) (.bin .eql (.tmp 35) (.const (.int .i64 4))) (Option.some (33, Bool.true))), (.mk (Option.some 37) (.pick (.tmp 33)
  (.tmp 36) (.const (.bool Bool.false))) Option.none), (.mk (Option.some 29) (.mv (.tmp 37)) Option.none)]) (.cond (.tmp 29) (.exit 3) .skip)) (.seq (.seq (.region [(.mk
  (Option.some 39) (.fieldAddr 0 (.tmp 5)) Option.none), (.mk (Option.some 40) (.load 1 Bool.false (.tmp 39)) Option.none), (.mk (Option.some 41) (.bin .eql (.tmp 40) (.const (.int
  .i64 2))) Option.none), (.mk (Option.some 42) (.mv (.tmp 41)) Option.none), (.mk (Option.some 43) (.fieldAddr 0 (.tmp 5)) (Option.some (42, Bool.false))), (.mk (Option.some 44)
  (.load 1 Bool.false (.tmp 43)) (Option.some (42, Bool.false))), (.mk (Option.some 45) (.bin .eql (.tmp 44) (.const (.int .i64 4))) (Option.some (42, Bool.false))), (.mk
  (Option.some 46) (.pick (.tmp 42) (.const (.bool Bool.true)) (.tmp 45)) Option.none), (.mk (Option.some 47) (.mv (.tmp 46)) Option.none), (.mk (Option.some 48) (.fieldAddr 0
  (.tmp 5)) (Option.some (47, Bool.false))), (.mk (Option.some 49) (.load 1 Bool.false (.tmp 48)) (Option.some (47, Bool.false))), (.mk (Option.some 50) (.bin .eql (.tmp 49)
  (.const (.int .i64 6))) (Option.some (47, Bool.false))), (.mk (Option.some 51) (.pick (.tmp 47) (.const (.bool Bool.true)) (.tmp 50)) Option.none), (.mk (Option.some 52) (.mv
  (.tmp 51)) Option.none), (.mk (Option.some 53) (.mv (.tmp 4)) (Option.some (52, Bool.true))), (.mk (Option.some 54) (.len (.tmp 53)) (Option.some (52, Bool.true))), (.mk
  (Option.some 55) (.bin .eql (.tmp 54) (.const (.int .i64 3))) (Option.some (52, Bool.true))), (.mk (Option.some 56) (.pick (.tmp 52) (.tmp 55) (.const (.bool Bool.false)))
  Option.none), (.mk (Option.some 38) (.mv (.tmp 56)) Option.none)]) (.cond (.tmp 38) (.exit 4) .skip)) (.seq (.region [(.mk (Option.some 58) (.fieldAddr 0 (.tmp 5)) Option.none),
  (.mk (Option.some 59) (.load 1 Bool.false (.tmp 58)) Option.none), (.mk (Option.some 60) (.bin .eql (.tmp 59) (.const (.int .i64 1))) Option.none), (.mk (Option.some 61) (.mv
  (.tmp 60)) Option.none), (.mk (Option.some 62) (.fieldAddr 0 (.tmp 5)) (Option.some (61, Bool.false))), (.mk (Option.some 63) (.load 1 Bool.false (.tmp 62)) (Option.some (61,
  Bool.false))), (.mk (Option.some 64) (.bin .eql (.tmp 63) (.const (.int .i64 3))) (Option.some (61, Bool.false))), (.mk (Option.some 65) (.pick (.tmp 61) (.const (.bool
  Bool.true)) (.tmp 64)) Option.none), (.mk (Option.some 66) (.mv (.tmp 65)) Option.none), (.mk (Option.some 67) (.mv (.tmp 4)) (Option.some (66, Bool.true))), (.mk (Option.some
  68) (.len (.tmp 67)) (Option.some (66, Bool.true))), (.mk (Option.some 69) (.bin .eql (.tmp 68) (.const (.int .i64 2))) (Option.some (66, Bool.true))), (.mk (Option.some 70)
  (.pick (.tmp 66) (.tmp 69) (.const (.bool Bool.false))) Option.none), (.mk (Option.some 57) (.mv (.tmp 70)) Option.none)]) (.cond (.tmp 57) (.exit 5) .skip)))) (.exit 6)))
  (.region [(.mk (Option.some 72) (.mv (.tmp 4)) Option.none), (.mk (Option.some 73) (.atSlice 1 (.tmp 72) (.const (.int .i64 3))) Option.none), (.mk (Option.some 74) (.load 1
  Bool.false (.tmp 73)) Option.none), (.mk (Option.some 75) (.call 62 [(.tmp 74)]) Option.none), (.mk (Option.some 71) (.mv (.tmp 75)) Option.none), (.mk (Option.some 76) (.extract
  (.tmp 71) 0) Option.none), (.mk (Option.some 77) (.extract (.tmp 71) 1) Option.none), (.mk (Option.some 78) (.fieldAddr 3 (.tmp 5)) Option.none), (.mk Option.none (.store 1 (.tmp
  78) (.tmp 76)) Option.none), (.mk (Option.some 7) (.mv (.tmp 77)) Option.none)]))) (.region [(.mk (Option.some 80) (.mv (.tmp 4)) Option.none), (.mk (Option.some 81) (.atSlice 1
  (.tmp 80) (.const (.int .i64 2))) Option.none), (.mk (Option.some 82) (.load 1 Bool.false (.tmp 81)) Option.none), (.mk (Option.some 83) (.call 62 [(.tmp 82)]) Option.none), (.mk
  (Option.some 79) (.mv (.tmp 83)) Option.none), (.mk (Option.some 84) (.extract (.tmp 79) 0) Option.none), (.mk (Option.some 85) (.extract (.tmp 79) 1) Option.none), (.mk
  (Option.some 86) (.fieldAddr 2 (.tmp 5)) Option.none), (.mk Option.none (.store 1 (.tmp 86) (.tmp 84)) Option.none), (.mk (Option.some 8) (.mv (.tmp 85)) Option.none)]))) (.seq
  (.region [(.mk (Option.some 87) (.mv (.tmp 4)) Option.none), (.mk (Option.some 88) (.atSlice 1 (.tmp 87) (.const (.int .i64 1))) Option.none), (.mk (Option.some 89) (.load 1
  Bool.false (.tmp 88)) Option.none), (.mk (Option.some 90) (.fieldAddr 1 (.tmp 5)) Option.none), (.mk Option.none (.store 1 (.tmp 90) (.tmp 89)) Option.none)]) (.exit 2)))) (.seq
  (.seq (.draws [((.mk (Option.some 91) (.load 4 Bool.true (.tmp 5)) Option.none), (0, 2)), ((.mk (Option.some 92) (.call 63 [(.const (.int .i64 6))]) Option.none), (0, 2)), ((.mk
  Option.none (.store 4 (.tmp 2) (.tmp 91)) Option.none), (2, 4)), ((.mk (Option.some 3) (.mv (.tmp 92)) Option.none), (3, 4))]) .ret) (.exit 2)))) (.seq (.seq (.region [(.mk
  (Option.some 93) (.fieldAddr 1 (.tmp 5)) Option.none), (.mk (Option.some 94) (.load 1 Bool.false (.tmp 93)) Option.none), (.mk (Option.some 95) (.call 64 [(.tmp 94)])
  Option.none), (.mk (Option.some 96) (.un .not (.tmp 95)) Option.none)]) (.cond (.tmp 96) (.draws [((.mk (Option.some 97) (.fieldAddr 1 (.tmp 5)) Option.none), (0, 3)), ((.mk
  (Option.some 98) (.load 1 Bool.false (.tmp 97)) Option.none), (0, 3)), ((.mk (Option.some 99) (.call 63 [(.const (.int .i64 6))]) Option.none), (0, 3)), ((.mk (Option.some 100)
  (.call 65 [(.tmp 98), (.tmp 99)]) Option.none), (3, 5)), ((.mk (Option.some 7) (.mv (.tmp 100)) Option.none), (4, 5))]) .skip)) (.seq (.draws [((.mk (Option.some 101) (.load 4
  Bool.true (.tmp 5)) Option.none), (0, 5)), ((.mk (Option.some 102) (.mv (.tmp 7)) Option.none), (0, 3)), ((.mk (Option.some 103) (.mv (.tmp 8)) Option.none), (0, 3)), ((.mk
  (Option.some 104) (.buildSlice 2 1 [.nilIface, .nilIface] [(0, (1, (.tmp 102))), (1, (1, (.tmp 103)))]) Option.none), (0, 4)), ((.mk (Option.some 105) (.call 66 [(.tmp 104)])
  Option.none), (4, 5)), ((.mk Option.none (.store 4 (.tmp 2) (.tmp 101)) Option.none), (5, 7)), ((.mk (Option.some 3) (.mv (.tmp 105)) Option.none), (6, 7))]) .ret)))))))) 106
  [(.cell 2 4 Bool.true), (.tmp 3)])
def a25 : AFn :=
  (.mk (.seq (.region [(.mk (Option.some 4) (.mv (.const .nilIface)) Option.none)]) (.seq (.seq (.region [(.mk (Option.some 5) (.mv (.tmp 1)) Option.none), (.mk (Option.some 6) (.eq
  (.iface Bool.true) Bool.false (.tmp 5) (.const .nilIface)) Option.none)]) (.cond (.tmp 6) (.seq (.region [(.mk (Option.some 4) (.mv (.const .nilIface)) Option.none)]) .ret)
  .skip)) (.seq (.region [(.mk (Option.some 7) (.mv (.tmp 1)) Option.none), (.mk (Option.some 8) (.build [.nilIface] [(0, (1, (.tmp 7)))]) Option.none), (.mk (Option.some 9) (.mv
  (.tmp 0)) Option.none), (.mk (Option.some 10) (.build [.nilIface, (.int .i64 0)] [(0, (1, (.tmp 8))), (1, (1, (.tmp 9)))]) Option.none), (.mk (Option.some 11) (.box (.tmp 10))
  Option.none), (.mk (Option.some 12) (.mkIface 95 (.tmp 11)) Option.none), (.mk (Option.some 4) (.mv (.tmp 12)) Option.none)]) .ret))) 13 [(.tmp 4)])
def a26 : AFn :=
  (.mk (.seq (.region [(.mk (Option.some 2) (.mv (.const (.int .i64 0))) Option.none)]) (.seq (.region [(.mk (Option.some 3) (.alloc [(.ptr Option.none)]) Option.none)]) (.seq (.seq
  (.region [(.mk (Option.some 4) (.mv (.tmp 0)) Option.none), (.mk (Option.some 5) (.mkIface 101 (.tmp 3)) Option.none), (.mk (Option.some 6) (.call 67 [(.tmp 4), (.tmp 5)])
  Option.none)]) (.cond (.tmp 6) (.seq (.region [(.mk (Option.some 7) (.load 1 Bool.false (.tmp 3)) Option.none), (.mk (Option.some 8) (.nilCheck (.tmp 7)) Option.none), (.mk
  (Option.some 9) (.fieldAddr 1 (.tmp 8)) Option.none), (.mk (Option.some 10) (.load 1 Bool.false (.tmp 9)) Option.none), (.mk (Option.some 2) (.mv (.tmp 10)) Option.none)]) .ret)
  .skip)) (.seq (.region [(.mk (Option.some 2) (.mv (.const (.int .i64 (-1)))) Option.none)]) .ret)))) 11 [(.tmp 2)])
def a27 : AFn :=
  (.mk (.seq (.region [(.mk (Option.some 2) (.mv (.const (.int .i64 0))) Option.none)]) (.seq (.region [(.mk (Option.some 3) (.alloc [(.ptr Option.none)]) Option.none)]) (.seq
  (.block 0 (.seq (.region [(.mk (Option.some 5) (.mv (.tmp 0)) Option.none), (.mk (Option.some 6) (.eq (.iface Bool.true) Bool.false (.tmp 5) (.const .nilIface)) Option.none),
  (.mk (Option.some 4) (.mv (.tmp 6)) Option.none)]) (.cond (.tmp 4) (.seq (.region [(.mk (Option.some 2) (.mv (.const (.int .i64 0))) Option.none)]) .ret) (.seq (.region [(.mk
  (Option.some 8) (.mv (.tmp 0)) Option.none), (.mk (Option.some 9) (.mkIface 103 (.tmp 3)) Option.none), (.mk (Option.some 10) (.call 67 [(.tmp 8), (.tmp 9)]) Option.none), (.mk
  (Option.some 7) (.mv (.tmp 10)) Option.none)]) (.cond (.tmp 7) (.seq (.region [(.mk (Option.some 11) (.load 1 Bool.false (.tmp 3)) Option.none), (.mk (Option.some 12) (.nilCheck
  (.tmp 11)) Option.none), (.mk (Option.some 13) (.fieldAddr 0 (.tmp 12)) Option.none), (.mk (Option.some 14) (.load 1 Bool.false (.tmp 13)) Option.none), (.mk (Option.some 2) (.mv
  (.tmp 14)) Option.none)]) .ret) .skip))))) (.seq (.region [(.mk (Option.some 2) (.mv (.const (.int .i64 2))) Option.none)]) .ret)))) 15 [(.tmp 2)])
def a28 : AFn :=
  (.mk (.seq (.region [(.mk (Option.some 2) (.mv (.const (.slice Option.none 0 0))) Option.none)]) (.seq (.region [(.mk (Option.some 3) (.mv (.const (.slice Option.none 0 0)))
  Option.none)]) (.seq (.seq (.region [(.mk (Option.some 6) (.mv (.tmp 0)) Option.none), (.mk (Option.some 7) (.call 29 [(.tmp 6), (.const (.int .u8 32))]) Option.none), (.mk
  (Option.some 8) (.len (.tmp 7)) Option.none), (.mk (Option.some 9) (.mv (.const (.int .i64 0))) Option.none)]) (.block 0 (.loop (.seq (.region [(.mk (Option.some 10) (.bin .lss
  (.tmp 9) (.tmp 8)) Option.none)]) (.seq (.cond (.tmp 10) .skip (.exit 0)) (.seq (.block 1 (.seq (.region [(.mk (Option.some 11) (.atSlice 1 (.tmp 7) (.tmp 9)) Option.none), (.mk
  (Option.some 12) (.load 1 Bool.false (.tmp 11)) Option.none), (.mk (Option.some 5) (.mv (.tmp 12)) Option.none)]) (.seq (.region [(.mk (Option.some 13) (.mv (.tmp 5))
  Option.none), (.mk (Option.some 14) (.bin .neq (.tmp 13) (.const (.string (ByteArray.mk #[])))) Option.none)]) (.cond (.tmp 14) (.region [(.mk (Option.some 15) (.mv (.tmp 3))
  Option.none), (.mk (Option.some 16) (.mv (.tmp 5)) Option.none), (.mk (Option.some 17) (.buildSlice 1 1 [(.str [])] [(0, (1, (.tmp 16)))]) Option.none), (.mk (Option.some 18)
  (.append Bool.false 1 16 (.tmp 15) (.tmp 17)) Option.none), (.mk (Option.some 3) (.mv (.tmp 18)) Option.none)]) .skip)))) (.region [(.mk (Option.some 19) (.bin .add (.tmp 9)
  (.const (.int .i64 1))) Option.none), (.mk (Option.some 9) (.mv (.tmp 19)) Option.none)]))))))) (.seq (.region [(.mk (Option.some 20) (.mv (.tmp 3)) Option.none), (.mk
  (Option.some 2) (.mv (.tmp 20)) Option.none)]) .ret)))) 21 [(.tmp 2)])
def a29 : AFn :=
  (.mk (.seq (.region [(.mk (Option.some 4) (.mv (.const (.slice Option.none 0 0))) Option.none)]) (.seq (.region [(.mk (Option.some 5) (.mv (.const (.slice Option.none 0 0)))
  Option.none)]) (.seq (.region [(.mk (Option.some 6) (.mv (.const (.int .i64 0))) Option.none)]) (.seq (.seq (.region [(.mk (Option.some 7) (.mv (.const (.int .i64 0)))
  Option.none)]) (.block 0 (.loop (.seq (.seq (.region [(.mk (Option.some 8) (.mv (.tmp 7)) Option.none), (.mk (Option.some 9) (.mv (.tmp 0)) Option.none), (.mk (Option.some 10)
  (.lenStr (.tmp 9)) Option.none), (.mk (Option.some 11) (.bin .leq (.tmp 8) (.tmp 10)) Option.none)]) (.cond (.tmp 11) .skip (.exit 0))) (.seq (.block 1 (.seq (.region [(.mk
  (Option.some 14) (.mv (.tmp 7)) Option.none), (.mk (Option.some 15) (.mv (.tmp 0)) Option.none), (.mk (Option.some 16) (.lenStr (.tmp 15)) Option.none), (.mk (Option.some 17)
  (.bin .eql (.tmp 14) (.tmp 16)) Option.none), (.mk (Option.some 18) (.mv (.tmp 17)) Option.none), (.mk (Option.some 19) (.mv (.tmp 0)) (Option.some (18, Bool.false))), (.mk
  (Option.some 20) (.mv (.tmp 7)) (Option.some (18, Bool.false))), (.mk (Option.some 21) (.byteAt (.tmp 19) (.tmp 20)) (Option.some (18, Bool.false))), (.mk (Option.some 22) (.mv
  (.tmp 1)) (Option.some (18, Bool.false))), (.mk (Option.some 23) (.bin .eql (.tmp 21) (.tmp 22)) (Option.some (18, Bool.false))), (.mk (Option.some 24) (.pick (.tmp 18) (.const
  (.bool Bool.true)) (.tmp 23)) Option.none)]) (.cond (.tmp 24) (.seq (.region [(.mk (Option.some 25) (.mv (.tmp 5)) Option.none), (.mk (Option.some 26) (.mv (.tmp 0))
  Option.none), (.mk (Option.some 27) (.mv (.tmp 6)) Option.none), (.mk (Option.some 28) (.mv (.tmp 7)) Option.none), (.mk (Option.some 29) (.cutStr (.tmp 26) (Option.some (.tmp
  27)) (Option.some (.tmp 28))) Option.none), (.mk (Option.some 30) (.buildSlice 1 1 [(.str [])] [(0, (1, (.tmp 29)))]) Option.none), (.mk (Option.some 31) (.append Bool.false 1 16
  (.tmp 25) (.tmp 30)) Option.none), (.mk (Option.some 5) (.mv (.tmp 31)) Option.none)]) (.region [(.mk (Option.some 32) (.mv (.tmp 7)) Option.none), (.mk (Option.some 33) (.bin
  .add (.tmp 32) (.const (.int .i64 1))) Option.none), (.mk (Option.some 6) (.mv (.tmp 33)) Option.none)])) .skip))) (.region [(.mk (Option.some 12) (.mv (.tmp 7)) Option.none),
  (.mk (Option.some 13) (.bin .add (.tmp 12) (.const (.int .i64 1))) Option.none), (.mk (Option.some 7) (.mv (.tmp 13)) Option.none)])))))) (.seq (.region [(.mk (Option.some 34)
  (.mv (.tmp 5)) Option.none), (.mk (Option.some 4) (.mv (.tmp 34)) Option.none)]) .ret))))) 35 [(.tmp 4)])
def a30 : AFn :=
  (.mk (.seq (.region [(.mk (Option.some 2) (.alloc [(.int .i64 0), (.str []), (.int .i64 0), (.int .i64 0)]) Option.none), (.mk (Option.some 3) (.mv (.const (.bool Bool.false)))
  Option.none)]) (.seq (.region [(.mk (Option.some 11) (.mv (.tmp 0)) Option.none), (.mk (Option.some 12) (.call 28 [(.tmp 11)]) Option.none), (.mk (Option.some 4) (.mv (.tmp 12))
  Option.none)]) (.seq (.region [(.mk (Option.some 5) (.alloc [(.int .i64 0), (.str []), (.int .i64 0), (.int .i64 0)]) Option.none)]) (.seq (.seq (.region [(.mk (Option.some 13)
  (.mv (.tmp 4)) Option.none), (.mk (Option.some 14) (.len (.tmp 13)) Option.none), (.mk (Option.some 15) (.bin .lss (.tmp 14) (.const (.int .i64 2))) Option.none)]) (.cond (.tmp
  15) (.seq (.region [(.mk (Option.some 16) (.load 4 Bool.true (.tmp 5)) Option.none), (.mk Option.none (.store 4 (.tmp 2) (.tmp 16)) Option.none), (.mk (Option.some 3) (.mv
  (.const (.bool Bool.false))) Option.none)]) .ret) .skip)) (.seq (.seq (.region [(.mk (Option.some 17) (.call 20 []) Option.none), (.mk (Option.some 18) (.len (.tmp 17))
  Option.none), (.mk (Option.some 19) (.mv (.const (.int .i64 0))) Option.none)]) (.block 0 (.loop (.seq (.region [(.mk (Option.some 20) (.bin .lss (.tmp 19) (.tmp 18))
  Option.none)]) (.seq (.cond (.tmp 20) .skip (.exit 0)) (.seq (.block 1 (.seq (.region [(.mk (Option.some 21) (.mv (.tmp 19)) Option.none), (.mk (Option.some 22) (.atSlice 1 (.tmp
  17) (.tmp 19)) Option.none), (.mk (Option.some 23) (.load 1 Bool.false (.tmp 22)) Option.none), (.mk (Option.some 6) (.mv (.tmp 21)) Option.none), (.mk (Option.some 7) (.mv (.tmp
  23)) Option.none)]) (.seq (.region [(.mk (Option.some 24) (.mv (.tmp 6)) Option.none), (.mk (Option.some 25) (.bin .gtr (.tmp 24) (.const (.int .i64 0))) Option.none), (.mk
  (Option.some 26) (.mv (.tmp 25)) Option.none), (.mk (Option.some 27) (.mv (.tmp 4)) (Option.some (26, Bool.true))), (.mk (Option.some 28) (.atSlice 1 (.tmp 27) (.const (.int .i64
  0))) (Option.some (26, Bool.true))), (.mk (Option.some 29) (.load 1 Bool.false (.tmp 28)) (Option.some (26, Bool.true))), (.mk (Option.some 30) (.mv (.tmp 7)) (Option.some (26,
  Bool.true))), (.mk (Option.some 31) (.bin .eql (.tmp 29) (.tmp 30)) (Option.some (26, Bool.true))), (.mk (Option.some 32) (.pick (.tmp 26) (.tmp 31) (.const (.bool Bool.false)))
  Option.none)]) (.cond (.tmp 32) (.region [(.mk (Option.some 33) (.mv (.tmp 6)) Option.none), (.mk (Option.some 34) (.fieldAddr 0 (.tmp 5)) Option.none), (.mk Option.none (.store
  1 (.tmp 34) (.tmp 33)) Option.none)]) .skip)))) (.region [(.mk (Option.some 35) (.bin .add (.tmp 19) (.const (.int .i64 1))) Option.none), (.mk (Option.some 19) (.mv (.tmp 35))
  Option.none)]))))))) (.seq (.region [(.mk (Option.some 36) (.mv (.tmp 4)) Option.none), (.mk (Option.some 37) (.atSlice 1 (.tmp 36) (.const (.int .i64 1))) Option.none), (.mk
  (Option.some 38) (.load 1 Bool.false (.tmp 37)) Option.none), (.mk (Option.some 39) (.fieldAddr 1 (.tmp 5)) Option.none), (.mk Option.none (.store 1 (.tmp 39) (.tmp 38))
  Option.none)]) (.seq (.region [(.mk (Option.some 40) (.buildSlice 7 1 [(.int .i64 0), (.int .i64 0), (.int .i64 0), (.int .i64 0), (.int .i64 0), (.int .i64 0), (.int .i64 0)]
  [(0, (1, (.const (.int .i64 0)))), (1, (1, (.const (.int .i64 2)))), (2, (1, (.const (.int .i64 3)))), (3, (1, (.const (.int .i64 2)))), (4, (1, (.const (.int .i64 3)))), (5, (1,
  (.const (.int .i64 4)))), (6, (1, (.const (.int .i64 3))))]) Option.none), (.mk (Option.some 41) (.fieldAddr 0 (.tmp 5)) Option.none), (.mk (Option.some 42) (.load 1 Bool.false
  (.tmp 41)) Option.none), (.mk (Option.some 43) (.atSlice 1 (.tmp 40) (.tmp 42)) Option.none), (.mk (Option.some 44) (.load 1 Bool.false (.tmp 43)) Option.none), (.mk (Option.some
  8) (.mv (.tmp 44)) Option.none)]) (.seq (.seq (.region [(.mk (Option.some 45) (.mv (.tmp 8)) Option.none), (.mk (Option.some 46) (.mv (.tmp 4)) Option.none), (.mk (Option.some
  47) (.len (.tmp 46)) Option.none), (.mk (Option.some 48) (.bin .neq (.tmp 45) (.tmp 47)) Option.none), (.mk (Option.some 49) (.mv (.tmp 48)) Option.none), (.mk (Option.some 50)
  (.fieldAddr 1 (.tmp 5)) (Option.some (49, Bool.false))), (.mk (Option.some 51) (.load 1 Bool.false (.tmp 50)) (Option.some (49, Bool.false))), (.mk (Option.some 52) (.call 31
  [(.tmp 51)]) (Option.some (49, Bool.false))), (.mk (Option.some 53) (.un .not (.tmp 52)) (Option.some (49, Bool.false))), (.mk (Option.some 54) (.pick (.tmp 49) (.const (.bool
  Bool.true)) (.tmp 53)) Option.none)]) (.cond (.tmp 54) (.seq (.region [(.mk (Option.some 55) (.load 4 Bool.true (.tmp 5)) Option.none), (.mk Option.none (.store 4 (.tmp 2) (.tmp
  55)) Option.none), (.mk (Option.some 3) (.mv (.const (.bool Bool.false))) Option.none)]) .ret) .skip)) (.seq (.region [(.mk (Option.some 9) (.mv (.const (.bool Bool.true)))
  Option.none), (.mk (Option.some 10) (.mv (.const (.bool Bool.true))) Option.none)]) (.seq (.seq (.region [(.mk (Option.some 56) (.mv (.tmp 8)) Option.none), (.mk (Option.some 57)
  (.bin .gtr (.tmp 56) (.const (.int .i64 2))) Option.none)]) (.cond (.tmp 57) (.region [(.mk (Option.some 59) (.mv (.tmp 4)) Option.none), (.mk (Option.some 60) (.atSlice 1 (.tmp
  59) (.const (.int .i64 2))) Option.none), (.mk (Option.some 61) (.load 1 Bool.false (.tmp 60)) Option.none), (.mk (Option.some 62) (.call 68 [(.tmp 61)]) Option.none), (.mk
  (Option.some 58) (.mv (.tmp 62)) Option.none), (.mk (Option.some 63) (.extract (.tmp 58) 0) Option.none), (.mk (Option.some 64) (.extract (.tmp 58) 1) Option.none), (.mk
  (Option.some 65) (.fieldAddr 2 (.tmp 5)) Option.none), (.mk Option.none (.store 1 (.tmp 65) (.tmp 63)) Option.none), (.mk (Option.some 9) (.mv (.tmp 64)) Option.none)]) .skip))
  (.seq (.seq (.region [(.mk (Option.some 66) (.mv (.tmp 8)) Option.none), (.mk (Option.some 67) (.bin .gtr (.tmp 66) (.const (.int .i64 3))) Option.none)]) (.cond (.tmp 67)
  (.region [(.mk (Option.some 69) (.mv (.tmp 4)) Option.none), (.mk (Option.some 70) (.atSlice 1 (.tmp 69) (.const (.int .i64 3))) Option.none), (.mk (Option.some 71) (.load 1
  Bool.false (.tmp 70)) Option.none), (.mk (Option.some 72) (.call 68 [(.tmp 71)]) Option.none), (.mk (Option.some 68) (.mv (.tmp 72)) Option.none), (.mk (Option.some 73) (.extract
  (.tmp 68) 0) Option.none), (.mk (Option.some 74) (.extract (.tmp 68) 1) Option.none), (.mk (Option.some 75) (.fieldAddr 3 (.tmp 5)) Option.none), (.mk Option.none (.store 1 (.tmp
  75) (.tmp 73)) Option.none), (.mk (Option.some 10) (.mv (.tmp 74)) Option.none)]) .skip)) (.seq (.region [(.mk (Option.some 76) (.load 4 Bool.true (.tmp 5)) Option.none), (.mk
  (Option.some 77) (.mv (.tmp 9)) Option.none), (.mk (Option.some 78) (.mv (.tmp 77)) Option.none), (.mk (Option.some 79) (.mv (.tmp 10)) (Option.some (78, Bool.true))), (.mk
  (Option.some 80) (.pick (.tmp 78) (.tmp 79) (.const (.bool Bool.false))) Option.none), (.mk Option.none (.store 4 (.tmp 2) (.tmp 76)) Option.none), (.mk (Option.some 3) (.mv
  (.tmp 80)) Option.none)]) .ret)))))))))))) 81 [(.cell 2 4 Bool.true), (.tmp 3)])
def a31 : AFn :=
  (.mk (.seq (.region [(.mk (Option.some 2) (.mv (.const (.bool Bool.false))) Option.none)]) (.seq (.region [(.mk (Option.some 3) (.mv (.tmp 0)) Option.none), (.mk (Option.some 4)
  (.lenStr (.tmp 3)) Option.none), (.mk (Option.some 5) (.bin .leq (.tmp 4) (.const (.int .i64 16))) Option.none), (.mk (Option.some 6) (.mv (.tmp 5)) Option.none), (.mk
  (Option.some 7) (.mv (.tmp 0)) (Option.some (6, Bool.true))), (.mk (Option.some 8) (.call 59 [(.tmp 7)]) (Option.some (6, Bool.true))), (.mk (Option.some 9) (.pick (.tmp 6) (.tmp
  8) (.const (.bool Bool.false))) Option.none), (.mk (Option.some 2) (.mv (.tmp 9)) Option.none)]) .ret)) 10 [(.tmp 2)])
def a32 : AFn :=
  (.mk (.seq (.region [(.mk (Option.some 3) (.box (.tmp 0)) Option.none), (.mk (Option.some 6) (.mv (.const (.int .i64 0))) Option.none), (.mk (Option.some 7) (.mv (.const (.bool
  Bool.false))) Option.none), (.mk (Option.some 8) (.mv (.const (.int .i64 0))) Option.none), (.mk (Option.some 9) (.mv (.const (.int .i64 0))) Option.none)]) (.seq (.seq (.region
  [(.mk (Option.some 10) (.load 4 Bool.true (.tmp 3)) Option.none), (.mk (Option.some 11) (.call 43 [(.tmp 10)]) Option.none), (.mk (Option.some 12) (.un .not (.tmp 11))
  Option.none)]) (.cond (.tmp 12) (.seq (.region [(.mk (Option.some 6) (.mv (.const (.int .i64 0))) Option.none), (.mk (Option.some 7) (.mv (.const (.bool Bool.false)))
  Option.none), (.mk (Option.some 8) (.mv (.const (.int .i64 0))) Option.none), (.mk (Option.some 9) (.mv (.const (.int .i64 2))) Option.none)]) .ret) .skip)) (.seq (.seq (.region
  [(.mk (Option.some 13) (.mv (.tmp 2)) Option.none), (.mk (Option.some 14) (.un .not (.tmp 13)) Option.none)]) (.cond (.tmp 14) (.region [(.mk (Option.some 1) (.mv (.const (.int
  .i64 0))) Option.none)]) .skip)) (.seq (.seq (.region [(.mk (Option.some 15) (.fieldAddr 0 (.tmp 3)) Option.none), (.mk (Option.some 16) (.load 1 Bool.false (.tmp 15))
  Option.none)]) (.block 0 (.seq (.region [(.mk (Option.some 18) (.bin .eql (.tmp 16) (.const (.int .i64 1))) Option.none), (.mk (Option.some 17) (.mv (.tmp 18)) Option.none)])
  (.cond (.tmp 17) (.seq (.region [(.mk (Option.some 19) (.mv (.tmp 1)) Option.none), (.mk (Option.some 20) (.mv (.tmp 2)) Option.none), (.mk (Option.some 21) (.mv (.tmp 1))
  Option.none), (.mk (Option.some 6) (.mv (.tmp 19)) Option.none), (.mk (Option.some 7) (.mv (.tmp 20)) Option.none), (.mk (Option.some 8) (.mv (.tmp 21)) Option.none), (.mk
  (Option.some 9) (.mv (.const (.int .i64 0))) Option.none)]) .ret) (.seq (.region [(.mk (Option.some 23) (.bin .eql (.tmp 16) (.const (.int .i64 2))) Option.none), (.mk
  (Option.some 22) (.mv (.tmp 23)) Option.none)]) (.cond (.tmp 22) (.seq (.draws [((.mk (Option.some 24) (.fieldAddr 2 (.tmp 3)) Option.none), (0, 8)), ((.mk (Option.some 25)
  (.load 1 Bool.false (.tmp 24)) Option.none), (0, 8)), ((.mk (Option.some 26) (.fieldAddr 2 (.tmp 3)) Option.none), (0, 8)), ((.mk (Option.some 27) (.load 1 Bool.false (.tmp 26))
  Option.none), (0, 8)), ((.mk (Option.some 6) (.mv (.tmp 25)) Option.none), (0, 8)), ((.mk (Option.some 7) (.mv (.const (.bool Bool.true))) Option.none), (0, 8)), ((.mk
  (Option.some 8) (.mv (.tmp 27)) Option.none), (0, 8)), ((.mk (Option.some 9) (.mv (.const (.int .i64 0))) Option.none), (0, 8))]) .ret) (.seq (.region [(.mk (Option.some 29)
  (.bin .eql (.tmp 16) (.const (.int .i64 3))) Option.none), (.mk (Option.some 28) (.mv (.tmp 29)) Option.none)]) (.cond (.tmp 28) (.seq (.region [(.mk (Option.some 30) (.mv (.tmp
  1)) Option.none), (.mk (Option.some 6) (.mv (.const (.int .i64 0))) Option.none), (.mk (Option.some 7) (.mv (.const (.bool Bool.false))) Option.none), (.mk (Option.some 8) (.mv
  (.tmp 30)) Option.none), (.mk (Option.some 9) (.mv (.const (.int .i64 0))) Option.none)]) .ret) (.seq (.region [(.mk (Option.some 32) (.bin .eql (.tmp 16) (.const (.int .i64 6)))
  Option.none), (.mk (Option.some 31) (.mv (.tmp 32)) Option.none)]) (.cond (.tmp 31) (.seq (.draws [((.mk (Option.some 33) (.mv (.tmp 1)) Option.none), (0, 12)), ((.mk
  (Option.some 34) (.fieldAddr 2 (.tmp 3)) Option.none), (0, 12)), ((.mk (Option.some 35) (.load 1 Bool.false (.tmp 34)) Option.none), (0, 12)), ((.mk (Option.some 36) (.bin .add
  (.tmp 33) (.tmp 35)) Option.none), (0, 12)), ((.mk (Option.some 37) (.mv (.tmp 1)) Option.none), (0, 12)), ((.mk (Option.some 38) (.fieldAddr 2 (.tmp 3)) Option.none), (0, 12)),
  ((.mk (Option.some 39) (.load 1 Bool.false (.tmp 38)) Option.none), (0, 12)), ((.mk (Option.some 40) (.bin .add (.tmp 37) (.tmp 39)) Option.none), (0, 12)), ((.mk (Option.some 6)
  (.mv (.tmp 36)) Option.none), (0, 12)), ((.mk (Option.some 7) (.mv (.const (.bool Bool.true))) Option.none), (0, 12)), ((.mk (Option.some 8) (.mv (.tmp 40)) Option.none), (0,
  12)), ((.mk (Option.some 9) (.mv (.const (.int .i64 0))) Option.none), (0, 12))]) .ret) .skip)))))))))) (.seq (.region [(.mk (Option.some 41) (.load 4 Bool.true (.tmp 3))
  Option.none), (.mk (Option.some 42) (.mv (.tmp 1)) Option.none), (.mk (Option.some 43) (.mv (.tmp 2)) Option.none), (.mk (Option.some 44) (.call 69 [(.tmp 41), (.tmp 42), (.tmp
  43)]) Option.none), (.mk (Option.some 45) (.extract (.tmp 44) 0) Option.none), (.mk (Option.some 46) (.extract (.tmp 44) 1) Option.none), (.mk (Option.some 47) (.extract (.tmp
  44) 2) Option.none), (.mk (Option.some 48) (.extract (.tmp 44) 3) Option.none), (.mk (Option.some 6) (.mv (.tmp 45)) Option.none), (.mk (Option.some 7) (.mv (.tmp 46))
  Option.none), (.mk (Option.some 8) (.mv (.tmp 47)) Option.none), (.mk (Option.some 9) (.mv (.tmp 48)) Option.none)]) .ret))))) 49 [(.tmp 6), (.tmp 7), (.tmp 8), (.tmp 9)])
def a33 : AFn :=
  (.mk (.seq (.region [(.mk (Option.some 2) (.mv (.const (.slice Option.none 0 0))) Option.none), (.mk (Option.some 3) (.mv (.const (.bool Bool.false))) Option.none)]) (.seq (.seq
  (.region [(.mk (Option.some 6) (.mv (.tmp 0)) Option.none), (.mk (Option.some 7) (.buildSlice 4 1 [(.int .i64 0), (.int .i64 0), (.int .i64 0), (.int .i64 0)] [(0, (1, (.const
  (.int .i64 1)))), (1, (1, (.const (.int .i64 4)))), (2, (1, (.const (.int .i64 5)))), (3, (1, (.const (.int .i64 6))))]) Option.none), (.mk (Option.some 8) (.call 70 [(.tmp 6),
  (.tmp 7)]) Option.none), (.mk (Option.some 9) (.un .not (.tmp 8)) Option.none), (.mk (Option.some 10) (.mv (.tmp 9)) Option.none), (.mk (Option.some 11) (.mv (.tmp 0))
  (Option.some (10, Bool.false))), (.mk (Option.some 12) (.call 71 [(.tmp 11), (.func 72)]) (Option.some (10, Bool.false))), (.mk (Option.some 13) (.pick (.tmp 10) (.const (.bool
  Bool.true)) (.tmp 12)) Option.none)]) (.cond (.tmp 13) (.seq (.region [(.mk (Option.some 2) (.mv (.const (.slice Option.none 0 0))) Option.none), (.mk (Option.some 3) (.mv
  (.const (.bool Bool.false))) Option.none)]) .ret) .skip)) (.seq (.region [(.mk (Option.some 4) (.mv (.const (.slice Option.none 0 0))) Option.none)]) (.seq (.seq (.region [(.mk
  (Option.some 14) (.mv (.tmp 0)) Option.none), (.mk (Option.some 15) (.len (.tmp 14)) Option.none), (.mk (Option.some 16) (.bin .sub (.tmp 15) (.const (.int .i64 1)))
  Option.none), (.mk (Option.some 5) (.mv (.tmp 16)) Option.none)]) (.block 0 (.loop (.seq (.seq (.region [(.mk (Option.some 17) (.mv (.tmp 5)) Option.none), (.mk (Option.some 18)
  (.bin .geq (.tmp 17) (.const (.int .i64 0))) Option.none)]) (.cond (.tmp 18) .skip (.exit 0))) (.seq (.block 1 (.seq (.region [(.mk (Option.some 21) (.mv (.tmp 0)) Option.none),
  (.mk (Option.some 22) (.mv (.tmp 5)) Option.none), (.mk (Option.some 23) (.atSlice 4 (.tmp 21) (.tmp 22)) Option.none), (.mk (Option.some 24) (.fieldAddr 0 (.tmp 23))
  Option.none), (.mk (Option.some 25) (.load 1 Bool.false (.tmp 24)) Option.none), (.mk (Option.some 26) (.bin .neq (.tmp 25) (.const (.int .i64 1))) Option.none)]) (.cond (.tmp
  26) (.draws [((.mk (Option.some 27) (.mv (.tmp 4)) Option.none), (0, 14)), ((.mk (Option.some 28) (.mv (.tmp 0)) Option.none), (0, 13)), ((.mk (Option.some 29) (.mv (.tmp 5))
  Option.none), (0, 13)), ((.mk (Option.some 30) (.atSlice 4 (.tmp 28) (.tmp 29)) Option.none), (0, 13)), ((.mk (Option.some 31) (.fieldAddr 1 (.tmp 30)) Option.none), (0, 13)),
  ((.mk (Option.some 32) (.load 1 Bool.false (.tmp 31)) Option.none), (0, 13)), ((.mk (Option.some 33) (.mv (.tmp 0)) Option.none), (0, 13)), ((.mk (Option.some 34) (.mv (.tmp 5))
  Option.none), (0, 13)), ((.mk (Option.some 35) (.atSlice 4 (.tmp 33) (.tmp 34)) Option.none), (0, 13)), ((.mk (Option.some 36) (.fieldAddr 2 (.tmp 35)) Option.none), (0, 13)),
  ((.mk (Option.some 37) (.load 1 Bool.false (.tmp 36)) Option.none), (0, 13)), ((.mk (Option.some 38) (.un .neg (.tmp 37)) Option.none), (0, 13)), ((.mk (Option.some 39) (.build
  [(.int .i64 0), (.str []), (.int .i64 0), (.int .i64 0)] [(0, (1, (.const (.int .i64 6)))), (1, (1, (.tmp 32))), (2, (1, (.tmp 38)))]) Option.none), (0, 13)), ((.mk (Option.some
  40) (.buildSlice 1 4 [(.int .i64 0), (.str []), (.int .i64 0), (.int .i64 0)] [(0, (4, (.tmp 39)))]) Option.none), (0, 14)), ((.mk (Option.some 41) (.append Bool.false 4 40 (.tmp
  27) (.tmp 40)) Option.none), (14, 16)), ((.mk (Option.some 4) (.mv (.tmp 41)) Option.none), (15, 16))]) .skip))) (.region [(.mk (Option.some 19) (.mv (.tmp 5)) Option.none), (.mk
  (Option.some 20) (.bin .sub (.tmp 19) (.const (.int .i64 1))) Option.none), (.mk (Option.some 5) (.mv (.tmp 20)) Option.none)])))))) (.seq (.region [(.mk (Option.some 42) (.mv
  (.tmp 4)) Option.none), (.mk (Option.some 2) (.mv (.tmp 42)) Option.none), (.mk (Option.some 3) (.mv (.const (.bool Bool.true))) Option.none)]) .ret))))) 43 [(.tmp 2), (.tmp 3)])
def a34 : AFn :=
  (.mk (.seq (.region [(.mk (Option.some 4) (.mv (.const (.bool Bool.false))) Option.none)]) (.seq (.seq (.region [(.mk (Option.some 10) (.mv (.tmp 0)) Option.none), (.mk
  (Option.some 11) (.buildSlice 4 1 [(.int .i64 0), (.int .i64 0), (.int .i64 0), (.int .i64 0)] [(0, (1, (.const (.int .i64 1)))), (1, (1, (.const (.int .i64 4)))), (2, (1,
  (.const (.int .i64 5)))), (3, (1, (.const (.int .i64 6))))]) Option.none), (.mk (Option.some 12) (.call 70 [(.tmp 10), (.tmp 11)]) Option.none), (.mk (Option.some 13) (.un .not
  (.tmp 12)) Option.none), (.mk (Option.some 14) (.mv (.tmp 13)) Option.none), (.mk (Option.some 15) (.mv (.tmp 1)) (Option.some (14, Bool.false))), (.mk (Option.some 16)
  (.buildSlice 2 1 [(.int .i64 0), (.int .i64 0)] [(0, (1, (.const (.int .i64 1)))), (1, (1, (.const (.int .i64 6))))]) (Option.some (14, Bool.false))), (.mk (Option.some 17)
  (.call 70 [(.tmp 15), (.tmp 16)]) (Option.some (14, Bool.false))), (.mk (Option.some 18) (.un .not (.tmp 17)) (Option.some (14, Bool.false))), (.mk (Option.some 19) (.pick (.tmp
  14) (.const (.bool Bool.true)) (.tmp 18)) Option.none)]) (.cond (.tmp 19) (.seq (.region [(.mk (Option.some 4) (.mv (.const (.bool Bool.false))) Option.none)]) .ret) .skip))
  (.seq (.region [(.mk (Option.some 20) .mkMap Option.none), (.mk (Option.some 5) (.mv (.tmp 20)) Option.none)]) (.seq (.seq (.region [(.mk (Option.some 21) (.mv (.tmp 0))
  Option.none), (.mk (Option.some 22) (.mv (.tmp 1)) Option.none), (.mk (Option.some 23) (.buildSlice 2 1 [(.slice Option.none 0 0 0 0), (.slice Option.none 0 0 0 0)] [(0, (1,
  (.tmp 21))), (1, (1, (.tmp 22)))]) Option.none), (.mk (Option.some 24) (.call 73 [(.tmp 23)]) Option.none), (.mk (Option.some 25) (.len (.tmp 24)) Option.none), (.mk (Option.some
  26) (.mv (.const (.int .i64 0))) Option.none)]) (.block 0 (.loop (.seq (.region [(.mk (Option.some 27) (.bin .lss (.tmp 26) (.tmp 25)) Option.none)]) (.seq (.cond (.tmp 27) .skip
  (.exit 0)) (.seq (.block 1 (.seq (.region [(.mk (Option.some 28) (.atSlice 4 (.tmp 24) (.tmp 26)) Option.none), (.mk (Option.some 29) (.load 4 Bool.true (.tmp 28)) Option.none),
  (.mk (Option.some 7) (.alloc [(.int .i64 0), (.str []), (.int .i64 0), (.int .i64 0)]) Option.none), (.mk Option.none (.store 4 (.tmp 7) (.tmp 29)) Option.none)]) (.seq (.region
  [(.mk (Option.some 30) (.fieldAddr 0 (.tmp 7)) Option.none), (.mk (Option.some 31) (.load 1 Bool.false (.tmp 30)) Option.none), (.mk (Option.some 32) (.bin .neq (.tmp 31) (.const
  (.int .i64 1))) Option.none)]) (.cond (.tmp 32) (.region [(.mk (Option.some 33) (.mv (.tmp 5)) Option.none), (.mk (Option.some 34) (.fieldAddr 1 (.tmp 7)) Option.none), (.mk
  (Option.some 35) (.load 1 Bool.false (.tmp 34)) Option.none), (.mk (Option.some 36) (.lookup .str (.int .i64 0) Bool.false (.tmp 33) (.tmp 35)) Option.none), (.mk (Option.some
  37) (.fieldAddr 2 (.tmp 7)) Option.none), (.mk (Option.some 38) (.load 1 Bool.false (.tmp 37)) Option.none), (.mk (Option.some 39) (.bin .add (.tmp 36) (.tmp 38)) Option.none),
  (.mk Option.none (.mapPut .str (.tmp 33) (.tmp 35) (.tmp 39)) Option.none)]) .skip)))) (.region [(.mk (Option.some 40) (.bin .add (.tmp 26) (.const (.int .i64 1))) Option.none),
  (.mk (Option.some 26) (.mv (.tmp 40)) Option.none)]))))))) (.seq (.seq (.region [(.mk (Option.some 41) (.mv (.tmp 5)) Option.none), (.mk (Option.some 42) (.range Bool.true (.tmp
  41)) Option.none)]) (.block 2 (.loop (.seq (.region [(.mk (Option.some 43) (.next Bool.false (.tmp 42)) Option.none), (.mk (Option.some 44) (.extract (.tmp 43) 0) Option.none)])
  (.seq (.cond (.tmp 44) .skip (.exit 2)) (.block 3 (.seq (.region [(.mk (Option.some 45) (.entry (.tmp 42)) Option.none), (.mk (Option.some 46) (.extract (.tmp 45) 1)
  Option.none), (.mk (Option.some 9) (.mv (.tmp 46)) Option.none)]) (.seq (.region [(.mk (Option.some 47) (.mv (.tmp 9)) Option.none), (.mk (Option.some 48) (.bin .neq (.tmp 47)
  (.const (.int .i64 0))) Option.none)]) (.cond (.tmp 48) (.seq (.region [(.mk (Option.some 4) (.mv (.const (.bool Bool.false))) Option.none)]) .ret) .skip))))))))) (.seq (.region
  [(.mk (Option.some 4) (.mv (.const (.bool Bool.true))) Option.none)]) .ret)))))) 49 [(.tmp 4)])
def a43 : AFn :=
  (.mk (.seq (.region [(.mk (Option.some 1) (.box (.tmp 0)) Option.none), (.mk (Option.some 2) (.mv (.const (.bool Bool.false))) Option.none)]) (.seq (.region [(.mk (Option.some 3)
  (.load 4 Bool.true (.tmp 1)) Option.none), (.mk (Option.some 4) (.call 79 [(.tmp 3)]) Option.none), (.mk (Option.some 5) (.mv (.tmp 4)) Option.none), (.mk (Option.some 6)
  (.fieldAddr 1 (.tmp 1)) (Option.some (5, Bool.true))), (.mk (Option.some 7) (.load 1 Bool.false (.tmp 6)) (Option.some (5, Bool.true))), (.mk (Option.some 8) (.call 64 [(.tmp
  7)]) (Option.some (5, Bool.true))), (.mk (Option.some 9) (.mv (.tmp 8)) (Option.some (5, Bool.true))), (.mk (Option.some 10) (.fieldAddr 1 (.tmp 1)) (Option.some (9,
  Bool.false))), (.mk (Option.some 11) (.load 1 Bool.false (.tmp 10)) (Option.some (9, Bool.false))), (.mk (Option.some 12) (.call 80 [(.tmp 11)]) (Option.some (9, Bool.false))),
  (.mk (Option.some 13) (.pick (.tmp 9) (.const (.bool Bool.true)) (.tmp 12)) (Option.some (5, Bool.true))), (.mk (Option.some 14) (.pick (.tmp 5) (.tmp 13) (.const (.bool
  Bool.false))) Option.none), (.mk (Option.some 2) (.mv (.tmp 14)) Option.none)]) .ret)) 15 [(.tmp 2)])
def a54 : AFn :=
  (.mk (.seq (.region [(.mk (Option.some 2) (.mv (.const (.string (ByteArray.mk #[])))) Option.none)]) (.seq (.seq (.region [(.mk (Option.some 3) (.mv (.tmp 0)) Option.none)])
  (.block 0 (.seq (.region [(.mk (Option.some 5) (.bin .eql (.tmp 3) (.const (.int .i64 1))) Option.none), (.mk (Option.some 4) (.mv (.tmp 5)) Option.none)]) (.cond (.tmp 4) (.seq
  (.region [(.mk (Option.some 2) (.mv (.const (.string (ByteArray.mk #[103, 101, 116])))) Option.none)]) .ret) (.seq (.region [(.mk (Option.some 7) (.bin .eql (.tmp 3) (.const
  (.int .i64 2))) Option.none), (.mk (Option.some 6) (.mv (.tmp 7)) Option.none)]) (.cond (.tmp 6) (.seq (.region [(.mk (Option.some 2) (.mv (.const (.string (ByteArray.mk #[112,
  117, 116])))) Option.none)]) .ret) (.seq (.region [(.mk (Option.some 9) (.bin .eql (.tmp 3) (.const (.int .i64 3))) Option.none), (.mk (Option.some 8) (.mv (.tmp 9))
  Option.none)]) (.cond (.tmp 8) (.seq (.region [(.mk (Option.some 2) (.mv (.const (.string (ByteArray.mk #[100, 101, 108])))) Option.none)]) .ret) (.seq (.region [(.mk
  (Option.some 11) (.bin .eql (.tmp 3) (.const (.int .i64 4))) Option.none), (.mk (Option.some 10) (.mv (.tmp 11)) Option.none)]) (.cond (.tmp 10) (.seq (.region [(.mk (Option.some
  2) (.mv (.const (.string (ByteArray.mk #[97, 100, 100])))) Option.none)]) .ret) (.seq (.region [(.mk (Option.some 13) (.bin .eql (.tmp 3) (.const (.int .i64 5))) Option.none),
  (.mk (Option.some 12) (.mv (.tmp 13)) Option.none)]) (.cond (.tmp 12) (.seq (.region [(.mk (Option.some 2) (.mv (.const (.string (ByteArray.mk #[109, 105, 110])))) Option.none)])
  .ret) (.seq (.region [(.mk (Option.some 15) (.bin .eql (.tmp 3) (.const (.int .i64 6))) Option.none), (.mk (Option.some 14) (.mv (.tmp 15)) Option.none)]) (.cond (.tmp 14) (.seq
  (.region [(.mk (Option.some 2) (.mv (.const (.string (ByteArray.mk #[98, 97, 99, 107])))) Option.none)]) .ret) .skip)))))))))))))) (.seq (.region [(.mk (Option.some 2) (.mv
  (.const (.string (ByteArray.mk #[])))) Option.none)]) .ret))) 16 [(.tmp 2)])
def a55 : AFn :=
  (.mk (.seq (.region [(.mk (Option.some 4) (.mv (.const (.string (ByteArray.mk #[])))) Option.none)]) (.seq (.region [(.mk (Option.some 5) (.mv (.tmp 0)) Option.none), (.mk
  (Option.some 6) (.mv (.tmp 1)) Option.none), (.mk (Option.some 7) (.call 83 [(.tmp 5), (.tmp 6)]) Option.none), (.mk (Option.some 4) (.mv (.tmp 7)) Option.none)]) .ret)) 8 [(.tmp
  4)])
def a59 : AFn :=
  (.mk (.seq (.region [(.mk (Option.some 2) (.mv (.const (.bool Bool.false))) Option.none)]) (.seq (.seq (.region [(.mk (Option.some 3) (.mv (.const (.int .i64 0))) Option.none)])
  (.block 0 (.loop (.seq (.seq (.region [(.mk (Option.some 5) (.mv (.tmp 3)) Option.none), (.mk (Option.some 6) (.mv (.tmp 0)) Option.none), (.mk (Option.some 7) (.lenStr (.tmp 6))
  Option.none), (.mk (Option.some 8) (.bin .lss (.tmp 5) (.tmp 7)) Option.none)]) (.cond (.tmp 8) .skip (.exit 0))) (.seq (.block 1 (.seq (.region [(.mk (Option.some 11) (.mv (.tmp
  0)) Option.none), (.mk (Option.some 12) (.mv (.tmp 3)) Option.none), (.mk (Option.some 13) (.byteAt (.tmp 11) (.tmp 12)) Option.none), (.mk (Option.some 4) (.mv (.tmp 13))
  Option.none)]) (.seq (.region [(.mk (Option.some 14) (.mv (.tmp 4)) Option.none), (.mk (Option.some 15) (.bin .lss (.tmp 14) (.const (.int .u8 97))) Option.none), (.mk
  (Option.some 16) (.mv (.tmp 15)) Option.none), (.mk (Option.some 17) (.mv (.tmp 4)) (Option.some (16, Bool.false))), (.mk (Option.some 18) (.bin .gtr (.tmp 17) (.const (.int .u8
  122))) (Option.some (16, Bool.false))), (.mk (Option.some 19) (.pick (.tmp 16) (.const (.bool Bool.true)) (.tmp 18)) Option.none), (.mk (Option.some 20) (.mv (.tmp 19))
  Option.none), (.mk (Option.some 21) (.mv (.tmp 4)) (Option.some (20, Bool.true))), (.mk (Option.some 22) (.bin .lss (.tmp 21) (.const (.int .u8 48))) (Option.some (20,
  Bool.true))), (.mk (Option.some 23) (.mv (.tmp 22)) (Option.some (20, Bool.true))), (.mk (Option.some 24) (.mv (.tmp 4)) (Option.some (23, Bool.false))), (.mk (Option.some 25)
  (.bin .gtr (.tmp 24) (.const (.int .u8 57))) (Option.some (23, Bool.false))), (.mk (Option.some 26) (.pick (.tmp 23) (.const (.bool Bool.true)) (.tmp 25)) (Option.some (20,
  Bool.true))), (.mk (Option.some 27) (.pick (.tmp 20) (.tmp 26) (.const (.bool Bool.false))) Option.none), (.mk (Option.some 28) (.mv (.tmp 27)) Option.none), (.mk (Option.some
  29) (.mv (.tmp 4)) (Option.some (28, Bool.true))), (.mk (Option.some 30) (.bin .neq (.tmp 29) (.const (.int .u8 46))) (Option.some (28, Bool.true))), (.mk (Option.some 31) (.pick
  (.tmp 28) (.tmp 30) (.const (.bool Bool.false))) Option.none), (.mk (Option.some 32) (.mv (.tmp 31)) Option.none), (.mk (Option.some 33) (.mv (.tmp 4)) (Option.some (32,
  Bool.true))), (.mk (Option.some 34) (.bin .neq (.tmp 33) (.const (.int .u8 95))) (Option.some (32, Bool.true))), (.mk (Option.some 35) (.pick (.tmp 32) (.tmp 34) (.const (.bool
  Bool.false))) Option.none)]) (.cond (.tmp 35) (.seq (.region [(.mk (Option.some 2) (.mv (.const (.bool Bool.false))) Option.none)]) .ret) .skip)))) (.region [(.mk (Option.some 9)
  (.mv (.tmp 3)) Option.none), (.mk (Option.some 10) (.bin .add (.tmp 9) (.const (.int .i64 1))) Option.none), (.mk (Option.some 3) (.mv (.tmp 10)) Option.none)])))))) (.seq
  (.region [(.mk (Option.some 36) (.mv (.tmp 0)) Option.none), (.mk (Option.some 37) (.lenStr (.tmp 36)) Option.none), (.mk (Option.some 38) (.bin .gtr (.tmp 37) (.const (.int .i64
  0))) Option.none), (.mk (Option.some 2) (.mv (.tmp 38)) Option.none)]) .ret))) 39 [(.tmp 2)])
def a60 : AFn :=
  (.mk (.seq (.region [(.mk (Option.some 2) (.mv (.const (.string (ByteArray.mk #[])))) Option.none)]) (.seq (.region [(.mk (Option.some 4) (.mv (.tmp 0)) Option.none), (.mk
  (Option.some 5) (.bin .rem (.tmp 4) (.const (.int .u64 10))) Option.none), (.mk (Option.some 6) (.mv (.tmp 0)) Option.none), (.mk (Option.some 7) (.bin .rem (.tmp 6) (.const
  (.int .u64 10))) Option.none), (.mk (Option.some 8) (.bin .add (.tmp 7) (.const (.int .u64 1))) Option.none), (.mk (Option.some 9) (.cutStr (.const (.string (ByteArray.mk #[48,
  49, 50, 51, 52, 53, 54, 55, 56, 57]))) (Option.some (.tmp 5)) (Option.some (.tmp 8))) Option.none), (.mk (Option.some 3) (.mv (.tmp 9)) Option.none)]) (.seq (.seq (.region [(.mk
  (Option.some 10) (.mv (.tmp 0)) Option.none), (.mk (Option.some 11) (.bin .geq (.tmp 10) (.const (.int .u64 10))) Option.none)]) (.cond (.tmp 11) (.seq (.region [(.mk
  (Option.some 12) (.mv (.tmp 0)) Option.none), (.mk (Option.some 13) (.bin .quo (.tmp 12) (.const (.int .u64 10))) Option.none), (.mk (Option.some 14) (.call 60 [(.tmp 13)])
  Option.none), (.mk (Option.some 15) (.mv (.tmp 3)) Option.none), (.mk (Option.some 16) (.bin .add (.tmp 14) (.tmp 15)) Option.none), (.mk (Option.some 2) (.mv (.tmp 16))
  Option.none)]) .ret) .skip)) (.seq (.region [(.mk (Option.some 17) (.mv (.tmp 3)) Option.none), (.mk (Option.some 2) (.mv (.tmp 17)) Option.none)]) .ret)))) 18 [(.tmp 2)])
def a61 : AFn :=
  (.mk (.seq (.region [(.mk (Option.some 8) (.mv (.const (.slice Option.none 0 0))) Option.none)]) (.seq (.seq (.region [(.mk (Option.some 12) (.mv (.tmp 3)) Option.none), (.mk
  (Option.some 13) (.bin .eql (.tmp 12) (.const (.int .i64 0))) Option.none)]) (.cond (.tmp 13) (.seq (.region [(.mk (Option.some 8) (.mv (.const (.slice Option.none 0 0)))
  Option.none)]) .ret) .skip)) (.seq (.seq (.region [(.mk (Option.some 14) (.mv (.tmp 1)) Option.none), (.mk (Option.some 15) (.bin .eql (.tmp 14) (.const (.string (ByteArray.mk
  #[])))) Option.none)]) (.cond (.tmp 15) (.seq (.region [(.mk (Option.some 16) (.mv (.tmp 0)) Option.none), (.mk (Option.some 17) (.mv (.tmp 3)) Option.none), (.mk (Option.some
  18) (.call 86 [(.tmp 16), (.tmp 17)]) Option.none), (.mk (Option.some 8) (.mv (.tmp 18)) Option.none)]) .ret) .skip)) (.seq (.seq (.region [(.mk (Option.some 19) (.mv (.tmp 3))
  Option.none), (.mk (Option.some 20) (.bin .lss (.tmp 19) (.const (.int .i64 0))) Option.none)]) (.cond (.tmp 20) (.region [(.mk (Option.some 21) (.mv (.tmp 0)) Option.none), (.mk
  (Option.some 22) (.mv (.tmp 1)) Option.none), (.mk (Option.some 23) (.call 87 [(.tmp 21), (.tmp 22)]) Option.none), (.mk (Option.some 24) (.bin .add (.tmp 23) (.const (.int .i64
  1))) Option.none), (.mk (Option.some 3) (.mv (.tmp 24)) Option.none)]) .skip)) (.seq (.region [(.mk (Option.some 25) (.mv (.tmp 3)) Option.none), (.mk (Option.some 26) (.mv (.tmp
  0)) Option.none), (.mk (Option.some 27) (.lenStr (.tmp 26)) Option.none), (.mk (Option.some 28) (.bin .add (.tmp 27) (.const (.int .i64 1))) Option.none), (.mk (Option.some 29)
  (.minmax Bool.false [(.tmp 25), (.tmp 28)]) Option.none), (.mk (Option.some 3) (.mv (.tmp 29)) Option.none)]) (.seq (.region [(.mk (Option.some 30) (.mv (.tmp 3)) Option.none),
  (.mk (Option.some 31) (.makeSlice 1 16 [(.str [])] (.tmp 30) (.tmp 30)) Option.none), (.mk (Option.some 9) (.mv (.tmp 31)) Option.none)]) (.seq (.region [(.mk (Option.some 32)
  (.mv (.tmp 3)) Option.none), (.mk (Option.some 33) (.bin .sub (.tmp 32) (.const (.int .i64 1))) Option.none), (.mk (Option.some 3) (.mv (.tmp 33)) Option.none)]) (.seq (.region
  [(.mk (Option.some 10) (.mv (.const (.int .i64 0))) Option.none)]) (.seq (.block 0 (.loop (.seq (.seq (.region [(.mk (Option.some 34) (.mv (.tmp 10)) Option.none), (.mk
  (Option.some 35) (.mv (.tmp 3)) Option.none), (.mk (Option.some 36) (.bin .lss (.tmp 34) (.tmp 35)) Option.none)]) (.cond (.tmp 36) .skip (.exit 0))) (.block 1 (.seq (.region
  [(.mk (Option.some 37) (.mv (.tmp 0)) Option.none), (.mk (Option.some 38) (.mv (.tmp 1)) Option.none), (.mk (Option.some 39) (.call 88 [(.tmp 37), (.tmp 38)]) Option.none), (.mk
  (Option.some 11) (.mv (.tmp 39)) Option.none)]) (.seq (.seq (.region [(.mk (Option.some 40) (.mv (.tmp 11)) Option.none), (.mk (Option.some 41) (.bin .lss (.tmp 40) (.const (.int
  .i64 0))) Option.none)]) (.cond (.tmp 41) (.exit 0) .skip)) (.seq (.region [(.mk (Option.some 42) (.mv (.tmp 9)) Option.none), (.mk (Option.some 43) (.mv (.tmp 10)) Option.none),
  (.mk (Option.some 44) (.mv (.tmp 0)) Option.none), (.mk (Option.some 45) (.mv (.tmp 11)) Option.none), (.mk (Option.some 46) (.mv (.tmp 2)) Option.none), (.mk (Option.some 47)
  (.bin .add (.tmp 45) (.tmp 46)) Option.none), (.mk (Option.some 48) (.cutStr (.tmp 44) Option.none (Option.some (.tmp 47))) Option.none), (.mk (Option.some 49) (.atSlice 1 (.tmp
  42) (.tmp 43)) Option.none), (.mk Option.none (.store 1 (.tmp 49) (.tmp 48)) Option.none)]) (.seq (.region [(.mk (Option.some 50) (.mv (.tmp 0)) Option.none), (.mk (Option.some
  51) (.mv (.tmp 11)) Option.none), (.mk (Option.some 52) (.mv (.tmp 1)) Option.none), (.mk (Option.some 53) (.lenStr (.tmp 52)) Option.none), (.mk (Option.some 54) (.bin .add
  (.tmp 51) (.tmp 53)) Option.none), (.mk (Option.some 55) (.cutStr (.tmp 50) (Option.some (.tmp 54)) Option.none) Option.none), (.mk (Option.some 0) (.mv (.tmp 55)) Option.none)])
  (.region [(.mk (Option.some 56) (.mv (.tmp 10)) Option.none), (.mk (Option.some 57) (.bin .add (.tmp 56) (.const (.int .i64 1))) Option.none), (.mk (Option.some 10) (.mv (.tmp
  57)) Option.none)]))))))))) (.seq (.region [(.mk (Option.some 58) (.mv (.tmp 9)) Option.none), (.mk (Option.some 59) (.mv (.tmp 10)) Option.none), (.mk (Option.some 60) (.mv
  (.tmp 0)) Option.none), (.mk (Option.some 61) (.atSlice 1 (.tmp 58) (.tmp 59)) Option.none), (.mk Option.none (.store 1 (.tmp 61) (.tmp 60)) Option.none)]) (.seq (.region [(.mk
  (Option.some 62) (.mv (.tmp 9)) Option.none), (.mk (Option.some 63) (.mv (.tmp 10)) Option.none), (.mk (Option.some 64) (.bin .add (.tmp 63) (.const (.int .i64 1))) Option.none),
  (.mk (Option.some 65) (.cutSlice 1 (.tmp 62) Option.none (Option.some (.tmp 64)) Option.none) Option.none), (.mk (Option.some 8) (.mv (.tmp 65)) Option.none)]) .ret))))))))))) 66
  [(.tmp 8)])
def a62 : AFn :=
  (.mk (.seq (.region [(.mk (Option.some 2) (.mv (.const (.int .i64 0))) Option.none), (.mk (Option.some 3) (.mv (.const .nilIface)) Option.none)]) (.seq (.region [(.mk (Option.some
  7) (.mv (.tmp 0)) Option.none), (.mk (Option.some 8) (.call 89 [(.tmp 7), (.const (.int .i64 10)), (.const (.int .i64 64))]) Option.none), (.mk (Option.some 6) (.mv (.tmp 8))
  Option.none), (.mk (Option.some 9) (.extract (.tmp 6) 0) Option.none), (.mk (Option.some 10) (.extract (.tmp 6) 1) Option.none), (.mk (Option.some 4) (.mv (.tmp 9)) Option.none),
  (.mk (Option.some 5) (.mv (.tmp 10)) Option.none)]) (.seq (.seq (.region [(.mk (Option.some 11) (.mv (.tmp 5)) Option.none), (.mk (Option.some 12) (.eq (.iface Bool.true)
  Bool.true (.tmp 11) (.const .nilIface)) Option.none), (.mk (Option.some 13) (.mv (.tmp 12)) Option.none), (.mk (Option.some 14) (.mv (.tmp 4)) (Option.some (13, Bool.false))),
  (.mk (Option.some 15) (.call 55 [(.tmp 14), (.const (.int .i64 10))]) (Option.some (13, Bool.false))), (.mk (Option.some 16) (.mv (.tmp 0)) (Option.some (13, Bool.false))), (.mk
  (Option.some 17) (.bin .neq (.tmp 15) (.tmp 16)) (Option.some (13, Bool.false))), (.mk (Option.some 18) (.pick (.tmp 13) (.const (.bool Bool.true)) (.tmp 17)) Option.none)])
  (.cond (.tmp 18) (.seq (.region [(.mk (Option.some 19) (.mv (.tmp 0)) Option.none), (.mk (Option.some 20) (.call 63 [(.const (.int .i64 6))]) Option.none), (.mk (Option.some 21)
  (.call 65 [(.tmp 19), (.tmp 20)]) Option.none), (.mk (Option.some 2) (.mv (.const (.int .i64 0))) Option.none), (.mk (Option.some 3) (.mv (.tmp 21)) Option.none)]) .ret) .skip))
  (.seq (.region [(.mk (Option.some 22) (.mv (.tmp 4)) Option.none), (.mk (Option.some 2) (.mv (.tmp 22)) Option.none), (.mk (Option.some 3) (.mv (.const .nilIface)) Option.none)])
  .ret)))) 23 [(.tmp 2), (.tmp 3)])
def a63 : AFn :=
  (.mk (.seq (.region [(.mk (Option.some 2) (.mv (.const .nilIface)) Option.none)]) (.seq (.seq (.region [(.mk (Option.some 3) (.mv (.tmp 0)) Option.none), (.mk (Option.some 4) (.bin
  .eql (.tmp 3) (.const (.int .i64 0))) Option.none)]) (.cond (.tmp 4) (.seq (.region [(.mk (Option.some 2) (.mv (.const .nilIface)) Option.none)]) .ret) .skip)) (.seq (.region
  [(.mk (Option.some 5) (.mv (.tmp 0)) Option.none), (.mk (Option.some 6) (.build [(.int .i64 0)] [(0, (1, (.tmp 5)))]) Option.none), (.mk (Option.some 7) (.box (.tmp 6))
  Option.none), (.mk (Option.some 8) (.mkIface 102 (.tmp 7)) Option.none), (.mk (Option.some 2) (.mv (.tmp 8)) Option.none)]) .ret))) 9 [(.tmp 2)])
def a64 : AFn :=
  (.mk (.seq (.region [(.mk (Option.some 2) (.mv (.const (.bool Bool.false))) Option.none)]) (.seq (.region [(.mk (Option.some 3) (.mv (.tmp 0)) Option.none), (.mk (Option.some 4)
  (.lenStr (.tmp 3)) Option.none), (.mk (Option.some 5) (.bin .leq (.tmp 4) (.const (.int .i64 16))) Option.none), (.mk (Option.some 6) (.mv (.tmp 5)) Option.none), (.mk
  (Option.some 7) (.mv (.tmp 0)) (Option.some (6, Bool.true))), (.mk (Option.some 8) (.call 90 [(.tmp 7)]) (Option.some (6, Bool.true))), (.mk (Option.some 9) (.pick (.tmp 6) (.tmp
  8) (.const (.bool Bool.false))) Option.none), (.mk (Option.some 2) (.mv (.tmp 9)) Option.none)]) .ret)) 10 [(.tmp 2)])
def a65 : AFn :=
  (.mk (.seq (.region [(.mk (Option.some 4) (.mv (.const .nilIface)) Option.none)]) (.seq (.seq (.region [(.mk (Option.some 5) (.mv (.tmp 1)) Option.none), (.mk (Option.some 6) (.eq
  (.iface Bool.true) Bool.false (.tmp 5) (.const .nilIface)) Option.none)]) (.cond (.tmp 6) (.seq (.region [(.mk (Option.some 4) (.mv (.const .nilIface)) Option.none)]) .ret)
  .skip)) (.seq (.region [(.mk (Option.some 7) (.mv (.tmp 1)) Option.none), (.mk (Option.some 8) (.build [.nilIface] [(0, (1, (.tmp 7)))]) Option.none), (.mk (Option.some 9) (.mv
  (.tmp 0)) Option.none), (.mk (Option.some 10) (.build [.nilIface, (.str [])] [(0, (1, (.tmp 8))), (1, (1, (.tmp 9)))]) Option.none), (.mk (Option.some 11) (.box (.tmp 10))
  Option.none), (.mk (Option.some 12) (.mkIface 129 (.tmp 11)) Option.none), (.mk (Option.some 4) (.mv (.tmp 12)) Option.none)]) .ret))) 13 [(.tmp 4)])
def a66 : AFn :=
  (.mk (.seq (.region [(.mk (Option.some 2) (.mv (.const .nilIface)) Option.none)]) (.seq (.seq (.region [(.mk (Option.some 5) (.mv (.tmp 0)) Option.none), (.mk (Option.some 6) (.len
  (.tmp 5)) Option.none), (.mk (Option.some 7) (.mv (.const (.int .i64 0))) Option.none)]) (.block 0 (.loop (.seq (.region [(.mk (Option.some 8) (.bin .lss (.tmp 7) (.tmp 6))
  Option.none)]) (.seq (.cond (.tmp 8) .skip (.exit 0)) (.seq (.block 1 (.seq (.region [(.mk (Option.some 9) (.atSlice 1 (.tmp 5) (.tmp 7)) Option.none), (.mk (Option.some 10)
  (.load 1 Bool.false (.tmp 9)) Option.none), (.mk (Option.some 4) (.mv (.tmp 10)) Option.none)]) (.seq (.region [(.mk (Option.some 11) (.mv (.tmp 4)) Option.none), (.mk
  (Option.some 12) (.eq (.iface Bool.true) Bool.true (.tmp 11) (.const .nilIface)) Option.none)]) (.cond (.tmp 12) (.seq (.region [(.mk (Option.some 13) (.mv (.tmp 4))
  Option.none), (.mk (Option.some 2) (.mv (.tmp 13)) Option.none)]) .ret) .skip)))) (.region [(.mk (Option.some 14) (.bin .add (.tmp 7) (.const (.int .i64 1))) Option.none), (.mk
  (Option.some 7) (.mv (.tmp 14)) Option.none)]))))))) (.seq (.region [(.mk (Option.some 2) (.mv (.const .nilIface)) Option.none)]) .ret))) 15 [(.tmp 2)])
def a67 : AFn :=
  (.mk (.seq (.region [(.mk (Option.some 4) (.mv (.const (.bool Bool.false))) Option.none)]) (.seq (.seq (.region [(.mk (Option.some 8) (.mv (.tmp 0)) Option.none), (.mk (Option.some
  9) (.eq (.iface Bool.true) Bool.false (.tmp 8) (.const .nilIface)) Option.none)]) (.cond (.tmp 9) (.seq (.region [(.mk (Option.some 4) (.mv (.const (.bool Bool.false)))
  Option.none)]) .ret) .skip)) (.seq (.seq (.region [(.mk (Option.some 10) (.mv (.tmp 1)) Option.none), (.mk (Option.some 11) (.eq (.iface Bool.true) Bool.false (.tmp 10) (.const
  .nilIface)) Option.none)]) (.cond (.tmp 11) (.region [(.mk (Option.some 12) (.mkIface 9 (.const (.string (ByteArray.mk #[101, 114, 114, 111, 114, 115, 58, 32, 116, 97, 114, 103,
  101, 116, 32, 99, 97, 110, 110, 111, 116, 32, 98, 101, 32, 110, 105, 108])))) Option.none), (.mk Option.none (.extract (.const (.bool Bool.false)) 0) Option.none)]) .skip)) (.seq
  (.region [(.mk (Option.some 13) (.mv (.tmp 1)) Option.none), (.mk (Option.some 14) (.call 91 [(.tmp 13)]) Option.none), (.mk (Option.some 5) (.alloc [(.ptr Option.none), (.ptr
  Option.none), (.int .u64 0)]) Option.none), (.mk Option.none (.store 3 (.tmp 5) (.tmp 14)) Option.none)]) (.seq (.region [(.mk (Option.some 15) (.load 3 Bool.true (.tmp 5))
  Option.none), (.mk (Option.some 16) (.call 92 [(.tmp 15)]) Option.none), (.mk (Option.some 6) (.mv (.tmp 16)) Option.none)]) (.seq (.seq (.region [(.mk (Option.some 17) (.mv
  (.tmp 6)) Option.none), (.mk (Option.some 18) (.invoke (.tmp 17) [(17, (158, Option.none)), (136, (168, Option.none)), (165, (158, (Option.some (0, (0, Bool.false))))), (166,
  (158, (Option.some (0, (0, Bool.false)))))] []) Option.none), (.mk (Option.some 19) (.bin .neq (.tmp 18) (.const (.int .u8 22))) Option.none), (.mk (Option.some 20) (.mv (.tmp
  19)) Option.none), (.mk (Option.some 21) (.load 3 Bool.true (.tmp 5)) (Option.some (20, Bool.false))), (.mk (Option.some 22) (.call 93 [(.tmp 21)]) (Option.some (20,
  Bool.false))), (.mk (Option.some 23) (.pick (.tmp 20) (.const (.bool Bool.true)) (.tmp 22)) Option.none)]) (.cond (.tmp 23) (.region [(.mk (Option.some 24) (.mkIface 9 (.const
  (.string (ByteArray.mk #[101, 114, 114, 111, 114, 115, 58, 32, 116, 97, 114, 103, 101, 116, 32, 109, 117, 115, 116, 32, 98, 101, 32, 97, 32, 110, 111, 110, 45, 110, 105, 108, 32,
  112, 111, 105, 110, 116, 101, 114])))) Option.none), (.mk Option.none (.extract (.const (.bool Bool.false)) 0) Option.none)]) .skip)) (.seq (.region [(.mk (Option.some 25) (.mv
  (.tmp 6)) Option.none), (.mk (Option.some 26) (.invoke (.tmp 25) [(17, (157, Option.none)), (136, (115, Option.none)), (165, (157, (Option.some (0, (0, Bool.false))))), (166,
  (173, Option.none))] []) Option.none), (.mk (Option.some 7) (.mv (.tmp 26)) Option.none)]) (.seq (.seq (.region [(.mk (Option.some 27) (.mv (.tmp 7)) Option.none), (.mk
  (Option.some 28) (.invoke (.tmp 27) [(17, (158, Option.none)), (136, (168, Option.none)), (165, (158, (Option.some (0, (0, Bool.false))))), (166, (158, (Option.some (0, (0,
  Bool.false)))))] []) Option.none), (.mk (Option.some 29) (.bin .neq (.tmp 28) (.const (.int .u8 20))) Option.none), (.mk (Option.some 30) (.mv (.tmp 29)) Option.none), (.mk
  (Option.some 31) (.mv (.tmp 7)) (Option.some (30, Bool.true))), (.mk (Option.some 32) (.load 1 Bool.false (.global 0)) (Option.some (30, Bool.true))), (.mk (Option.some 33)
  (.invoke (.tmp 31) [(166, (174, Option.none))] [(.tmp 32)]) (Option.some (30, Bool.true))), (.mk (Option.some 34) (.un .not (.tmp 33)) (Option.some (30, Bool.true))), (.mk
  (Option.some 35) (.pick (.tmp 30) (.tmp 34) (.const (.bool Bool.false))) Option.none)]) (.cond (.tmp 35) (.region [(.mk (Option.some 36) (.mkIface 9 (.const (.string
  (ByteArray.mk #[101, 114, 114, 111, 114, 115, 58, 32, 42, 116, 97, 114, 103, 101, 116, 32, 109, 117, 115, 116, 32, 98, 101, 32, 105, 110, 116, 101, 114, 102, 97, 99, 101, 32,
  111, 114, 32, 105, 109, 112, 108, 101, 109, 101, 110, 116, 32, 101, 114, 114, 111, 114])))) Option.none), (.mk Option.none (.extract (.const (.bool Bool.false)) 0) Option.none)])
  .skip)) (.seq (.region [(.mk (Option.some 37) (.mv (.tmp 0)) Option.none), (.mk (Option.some 38) (.mv (.tmp 1)) Option.none), (.mk (Option.some 39) (.load 3 Bool.true (.tmp 5))
  Option.none), (.mk (Option.some 40) (.mv (.tmp 7)) Option.none), (.mk (Option.some 41) (.call 94 [(.tmp 37), (.tmp 38), (.tmp 39), (.tmp 40)]) Option.none), (.mk (Option.some 4)
  (.mv (.tmp 41)) Option.none)]) .ret))))))))) 42 [(.tmp 4)])
def a68 : AFn :=
  (.mk (.seq (.region [(.mk (Option.some 2) (.mv (.const (.int .i64 0))) Option.none), (.mk (Option.some 3) (.mv (.const (.bool Bool.false))) Option.none)]) (.seq (.seq (.region
  [(.mk (Option.some 6) (.mv (.tmp 0)) Option.none), (.mk (Option.some 7) (.lenStr (.tmp 6)) Option.none), (.mk (Option.some 8) (.bin .eql (.tmp 7) (.const (.int .i64 0)))
  Option.none), (.mk (Option.some 9) (.mv (.tmp 8)) Option.none), (.mk (Option.some 10) (.mv (.tmp 0)) (Option.some (9, Bool.false))), (.mk (Option.some 11) (.lenStr (.tmp 10))
  (Option.some (9, Bool.false))), (.mk (Option.some 12) (.bin .gtr (.tmp 11) (.const (.int .i64 20))) (Option.some (9, Bool.false))), (.mk (Option.some 13) (.pick (.tmp 9) (.const
  (.bool Bool.true)) (.tmp 12)) Option.none), (.mk (Option.some 14) (.mv (.tmp 13)) Option.none), (.mk (Option.some 15) (.mv (.tmp 0)) (Option.some (14, Bool.false))), (.mk
  (Option.some 16) (.bin .eql (.tmp 15) (.const (.string (ByteArray.mk #[45])))) (Option.some (14, Bool.false))), (.mk (Option.some 17) (.pick (.tmp 14) (.const (.bool Bool.true))
  (.tmp 16)) Option.none)]) (.cond (.tmp 17) (.seq (.region [(.mk (Option.some 2) (.mv (.const (.int .i64 0))) Option.none), (.mk (Option.some 3) (.mv (.const (.bool Bool.false)))
  Option.none)]) .ret) .skip)) (.seq (.region [(.mk (Option.some 4) (.mv (.const (.int .i64 0))) Option.none)]) (.seq (.seq (.region [(.mk (Option.some 5) (.mv (.const (.int .i64
  0))) Option.none)]) (.block 0 (.loop (.seq (.seq (.region [(.mk (Option.some 18) (.mv (.tmp 5)) Option.none), (.mk (Option.some 19) (.mv (.tmp 0)) Option.none), (.mk (Option.some
  20) (.lenStr (.tmp 19)) Option.none), (.mk (Option.some 21) (.bin .lss (.tmp 18) (.tmp 20)) Option.none)]) (.cond (.tmp 21) .skip (.exit 0))) (.seq (.block 1 (.seq (.seq (.region
  [(.mk (Option.some 24) (.mv (.tmp 5)) Option.none), (.mk (Option.some 25) (.bin .eql (.tmp 24) (.const (.int .i64 0))) Option.none), (.mk (Option.some 26) (.mv (.tmp 25))
  Option.none), (.mk (Option.some 27) (.mv (.tmp 0)) (Option.some (26, Bool.true))), (.mk (Option.some 28) (.byteAt (.tmp 27) (.const (.int .i64 0))) (Option.some (26,
  Bool.true))), (.mk (Option.some 29) (.bin .eql (.tmp 28) (.const (.int .u8 45))) (Option.some (26, Bool.true))), (.mk (Option.some 30) (.pick (.tmp 26) (.tmp 29) (.const (.bool
  Bool.false))) Option.none)]) (.cond (.tmp 30) (.exit 1) .skip)) (.seq (.seq (.region [(.mk (Option.some 31) (.mv (.tmp 0)) Option.none), (.mk (Option.some 32) (.mv (.tmp 5))
  Option.none), (.mk (Option.some 33) (.byteAt (.tmp 31) (.tmp 32)) Option.none), (.mk (Option.some 34) (.bin .lss (.tmp 33) (.const (.int .u8 48))) Option.none), (.mk (Option.some
  35) (.mv (.tmp 34)) Option.none), (.mk (Option.some 36) (.mv (.tmp 0)) (Option.some (35, Bool.false))), (.mk (Option.some 37) (.mv (.tmp 5)) (Option.some (35, Bool.false))), (.mk
  (Option.some 38) (.byteAt (.tmp 36) (.tmp 37)) (Option.some (35, Bool.false))), (.mk (Option.some 39) (.bin .gtr (.tmp 38) (.const (.int .u8 57))) (Option.some (35,
  Bool.false))), (.mk (Option.some 40) (.pick (.tmp 35) (.const (.bool Bool.true)) (.tmp 39)) Option.none)]) (.cond (.tmp 40) (.seq (.region [(.mk (Option.some 2) (.mv (.const
  (.int .i64 0))) Option.none), (.mk (Option.some 3) (.mv (.const (.bool Bool.false))) Option.none)]) .ret) .skip)) (.region [(.mk (Option.some 41) (.mv (.tmp 4)) Option.none),
  (.mk (Option.some 42) (.bin .mul (.tmp 41) (.const (.int .i64 10))) Option.none), (.mk (Option.some 43) (.mv (.tmp 0)) Option.none), (.mk (Option.some 44) (.mv (.tmp 5))
  Option.none), (.mk (Option.some 45) (.byteAt (.tmp 43) (.tmp 44)) Option.none), (.mk (Option.some 46) (.bin .sub (.tmp 45) (.const (.int .u8 48))) Option.none), (.mk (Option.some
  47) (.conv .i64 (.tmp 46)) Option.none), (.mk (Option.some 48) (.bin .sub (.tmp 42) (.tmp 47)) Option.none), (.mk (Option.some 4) (.mv (.tmp 48)) Option.none)])))) (.region [(.mk
  (Option.some 22) (.mv (.tmp 5)) Option.none), (.mk (Option.some 23) (.bin .add (.tmp 22) (.const (.int .i64 1))) Option.none), (.mk (Option.some 5) (.mv (.tmp 23))
  Option.none)])))))) (.seq (.seq (.region [(.mk (Option.some 49) (.mv (.tmp 0)) Option.none), (.mk (Option.some 50) (.byteAt (.tmp 49) (.const (.int .i64 0))) Option.none), (.mk
  (Option.some 51) (.bin .neq (.tmp 50) (.const (.int .u8 45))) Option.none)]) (.cond (.tmp 51) (.region [(.mk (Option.some 52) (.mv (.tmp 4)) Option.none), (.mk (Option.some 53)
  (.bin .sub (.const (.int .i64 0)) (.tmp 52)) Option.none), (.mk (Option.some 4) (.mv (.tmp 53)) Option.none)]) .skip)) (.seq (.seq (.region [(.mk (Option.some 54) (.mv (.tmp 4))
  Option.none), (.mk (Option.some 55) (.call 21 [(.tmp 54)]) Option.none), (.mk (Option.some 56) (.mv (.tmp 0)) Option.none), (.mk (Option.some 57) (.bin .neq (.tmp 55) (.tmp 56))
  Option.none)]) (.cond (.tmp 57) (.seq (.region [(.mk (Option.some 2) (.mv (.const (.int .i64 0))) Option.none), (.mk (Option.some 3) (.mv (.const (.bool Bool.false)))
  Option.none)]) .ret) .skip)) (.seq (.region [(.mk (Option.some 58) (.mv (.tmp 4)) Option.none), (.mk (Option.some 2) (.mv (.tmp 58)) Option.none), (.mk (Option.some 3) (.mv
  (.const (.bool Bool.true))) Option.none)]) .ret))))))) 59 [(.tmp 2), (.tmp 3)])
def a69 : AFn :=
  (.mk (.seq (.region [(.mk (Option.some 3) (.box (.tmp 0)) Option.none), (.mk (Option.some 6) (.mv (.const (.int .i64 0))) Option.none), (.mk (Option.some 7) (.mv (.const (.bool
  Bool.false))) Option.none), (.mk (Option.some 8) (.mv (.const (.int .i64 0))) Option.none), (.mk (Option.some 9) (.mv (.const (.int .i64 0))) Option.none)]) (.seq (.region [(.mk
  (Option.some 13) (.mv (.tmp 1)) Option.none), (.mk (Option.some 14) (.fieldAddr 2 (.tmp 3)) Option.none), (.mk (Option.some 15) (.load 1 Bool.false (.tmp 14)) Option.none), (.mk
  (Option.some 16) (.call 95 [(.tmp 13), (.tmp 15)]) Option.none), (.mk (Option.some 12) (.mv (.tmp 16)) Option.none), (.mk (Option.some 17) (.extract (.tmp 12) 0) Option.none),
  (.mk (Option.some 18) (.extract (.tmp 12) 1) Option.none), (.mk (Option.some 10) (.mv (.tmp 17)) Option.none), (.mk (Option.some 11) (.mv (.tmp 18)) Option.none)]) (.seq (.block
  0 (.seq (.region [(.mk (Option.some 20) (.mv (.tmp 11)) Option.none), (.mk (Option.some 21) (.un .not (.tmp 20)) Option.none), (.mk (Option.some 19) (.mv (.tmp 21))
  Option.none)]) (.cond (.tmp 19) (.seq (.region [(.mk (Option.some 22) (.mv (.tmp 1)) Option.none), (.mk (Option.some 23) (.mv (.tmp 2)) Option.none), (.mk (Option.some 6) (.mv
  (.tmp 22)) Option.none), (.mk (Option.some 7) (.mv (.tmp 23)) Option.none), (.mk (Option.some 8) (.mv (.const (.int .i64 0))) Option.none), (.mk (Option.some 9) (.mv (.const
  (.int .i64 25))) Option.none)]) .ret) (.seq (.region [(.mk (Option.some 25) (.fieldAddr 0 (.tmp 3)) Option.none), (.mk (Option.some 26) (.load 1 Bool.false (.tmp 25))
  Option.none), (.mk (Option.some 27) (.bin .eql (.tmp 26) (.const (.int .i64 5))) Option.none), (.mk (Option.some 28) (.mv (.tmp 27)) Option.none), (.mk (Option.some 29) (.mv
  (.tmp 10)) (Option.some (28, Bool.true))), (.mk (Option.some 30) (.fieldAddr 3 (.tmp 3)) (Option.some (28, Bool.true))), (.mk (Option.some 31) (.load 1 Bool.false (.tmp 30))
  (Option.some (28, Bool.true))), (.mk (Option.some 32) (.bin .lss (.tmp 29) (.tmp 31)) (Option.some (28, Bool.true))), (.mk (Option.some 33) (.pick (.tmp 28) (.tmp 32) (.const
  (.bool Bool.false))) Option.none), (.mk (Option.some 24) (.mv (.tmp 33)) Option.none)]) (.cond (.tmp 24) (.seq (.region [(.mk (Option.some 34) (.mv (.tmp 1)) Option.none), (.mk
  (Option.some 35) (.mv (.tmp 2)) Option.none), (.mk (Option.some 6) (.mv (.tmp 34)) Option.none), (.mk (Option.some 7) (.mv (.tmp 35)) Option.none), (.mk (Option.some 8) (.mv
  (.const (.int .i64 0))) Option.none), (.mk (Option.some 9) (.mv (.const (.int .i64 24))) Option.none)]) .ret) .skip))))) (.seq (.region [(.mk (Option.some 36) (.mv (.tmp 10))
  Option.none), (.mk (Option.some 37) (.mv (.tmp 10)) Option.none), (.mk (Option.some 6) (.mv (.tmp 36)) Option.none), (.mk (Option.some 7) (.mv (.const (.bool Bool.true)))
  Option.none), (.mk (Option.some 8) (.mv (.tmp 37)) Option.none), (.mk (Option.some 9) (.mv (.const (.int .i64 0))) Option.none)]) .ret)))) 38 [(.tmp 6), (.tmp 7), (.tmp 8), (.tmp
  9)])
def a70 : AFn :=
  (.mk (.seq (.region [(.mk (Option.some 3) (.box (.tmp 1)) Option.none), (.mk (Option.some 4) (.mv (.const (.bool Bool.false))) Option.none)]) (.seq (.region [(.mk (Option.some 5)
  (.mv (.tmp 0)) Option.none), (.mk (Option.some 6) (.mkFunc (.func 96) [] [(.tmp 3)]) Option.none), (.mk (Option.some 7) (.call 71 [(.tmp 5), (.tmp 6)]) Option.none), (.mk
  (Option.some 8) (.un .not (.tmp 7)) Option.none), (.mk (Option.some 4) (.mv (.tmp 8)) Option.none)]) .ret)) 9 [(.tmp 4)])
def a71 : AFn :=
  (.mk (.seq (.region [(.mk (Option.some 4) (.mv (.const (.bool Bool.false))) Option.none)]) (.seq (.region [(.mk (Option.some 5) (.mv (.tmp 0)) Option.none), (.mk (Option.some 6)
  (.mv (.tmp 1)) Option.none), (.mk (Option.some 7) (.call 98 [(.tmp 5), (.tmp 6)]) Option.none), (.mk (Option.some 8) (.bin .geq (.tmp 7) (.const (.int .i64 0))) Option.none),
  (.mk (Option.some 4) (.mv (.tmp 8)) Option.none)]) .ret)) 9 [(.tmp 4)])
def a72 : AFn :=
  (.mk (.seq (.region [(.mk (Option.some 1) (.box (.tmp 0)) Option.none), (.mk (Option.some 2) (.mv (.const (.bool Bool.false))) Option.none)]) (.seq (.region [(.mk (Option.some 3)
  (.load 4 Bool.true (.tmp 1)) Option.none), (.mk (Option.some 4) (.call 43 [(.tmp 3)]) Option.none), (.mk (Option.some 5) (.un .not (.tmp 4)) Option.none), (.mk (Option.some 2)
  (.mv (.tmp 5)) Option.none)]) .ret)) 6 [(.tmp 2)])
def a73 : AFn :=
  (.mk (.seq (.region [(.mk (Option.some 2) (.mv (.const (.slice Option.none 0 0))) Option.none)]) (.seq (.region [(.mk (Option.some 3) (.mv (.const (.int .i64 0))) Option.none)])
  (.seq (.seq (.region [(.mk (Option.some 9) (.mv (.tmp 0)) Option.none), (.mk (Option.some 10) (.len (.tmp 9)) Option.none), (.mk (Option.some 11) (.mv (.const (.int .i64 0)))
  Option.none)]) (.block 0 (.loop (.seq (.region [(.mk (Option.some 12) (.bin .lss (.tmp 11) (.tmp 10)) Option.none)]) (.seq (.cond (.tmp 12) .skip (.exit 0)) (.seq (.block 1 (.seq
  (.region [(.mk (Option.some 13) (.atSlice 1 (.tmp 9) (.tmp 11)) Option.none), (.mk (Option.some 14) (.load 1 Bool.false (.tmp 13)) Option.none), (.mk (Option.some 5) (.mv (.tmp
  14)) Option.none)]) (.seq (.region [(.mk (Option.some 15) (.mv (.tmp 3)) Option.none), (.mk (Option.some 16) (.mv (.tmp 5)) Option.none), (.mk (Option.some 17) (.len (.tmp 16))
  Option.none), (.mk (Option.some 18) (.bin .add (.tmp 15) (.tmp 17)) Option.none), (.mk (Option.some 3) (.mv (.tmp 18)) Option.none)]) (.seq (.region [(.mk (Option.some 19) (.mv
  (.tmp 3)) Option.none), (.mk (Option.some 20) (.bin .lss (.tmp 19) (.const (.int .i64 0))) Option.none)]) (.cond (.tmp 20) (.region [(.mk (Option.some 21) (.mkIface 9 (.const
  (.string (ByteArray.mk #[108, 101, 110, 32, 111, 117, 116, 32, 111, 102, 32, 114, 97, 110, 103, 101])))) Option.none), (.mk Option.none (.extract (.const (.bool Bool.false)) 0)
  Option.none)]) .skip))))) (.region [(.mk (Option.some 22) (.bin .add (.tmp 11) (.const (.int .i64 1))) Option.none), (.mk (Option.some 11) (.mv (.tmp 22)) Option.none)])))))))
  (.seq (.region [(.mk (Option.some 23) (.mv (.tmp 3)) Option.none), (.mk (Option.some 24) (.call 99 [(.const (.slice Option.none 0 0)), (.tmp 23)]) Option.none), (.mk (Option.some
  6) (.mv (.tmp 24)) Option.none)]) (.seq (.seq (.region [(.mk (Option.some 25) (.mv (.tmp 0)) Option.none), (.mk (Option.some 26) (.len (.tmp 25)) Option.none), (.mk (Option.some
  27) (.mv (.const (.int .i64 0))) Option.none)]) (.block 2 (.loop (.seq (.region [(.mk (Option.some 28) (.bin .lss (.tmp 27) (.tmp 26)) Option.none)]) (.seq (.cond (.tmp 28) .skip
  (.exit 2)) (.seq (.block 3 (.seq (.region [(.mk (Option.some 29) (.atSlice 1 (.tmp 25) (.tmp 27)) Option.none), (.mk (Option.some 30) (.load 1 Bool.false (.tmp 29)) Option.none),
  (.mk (Option.some 8) (.mv (.tmp 30)) Option.none)]) (.region [(.mk (Option.some 31) (.mv (.tmp 6)) Option.none), (.mk (Option.some 32) (.mv (.tmp 8)) Option.none), (.mk
  (Option.some 33) (.append Bool.false 4 40 (.tmp 31) (.tmp 32)) Option.none), (.mk (Option.some 6) (.mv (.tmp 33)) Option.none)]))) (.region [(.mk (Option.some 34) (.bin .add
  (.tmp 27) (.const (.int .i64 1))) Option.none), (.mk (Option.some 27) (.mv (.tmp 34)) Option.none)]))))))) (.seq (.region [(.mk (Option.some 35) (.mv (.tmp 6)) Option.none), (.mk
  (Option.some 2) (.mv (.tmp 35)) Option.none)]) .ret)))))) 36 [(.tmp 2)])
end Go.Proofs.YtejlhgcheaimjaaGreatDoor
