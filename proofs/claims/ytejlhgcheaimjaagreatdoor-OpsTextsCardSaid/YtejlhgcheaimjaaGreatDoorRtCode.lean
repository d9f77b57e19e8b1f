/- The functions of the seat as the abstract machine's code: no program in sight. -/
import Derived.Test.YtejlhgcheaimjaaGreatDoorRtCodeA
namespace Go.Proofs.YtejlhgcheaimjaaGreatDoor
open Go.AM
set_option maxRecDepth 100000
def a75 : AFn :=
  (.mk (.seq (.region [(.mk (Option.some 2) (.mv (.const (.int .u64 0))) Option.none), (.mk (Option.some 3) (.mv (.const (.bool Bool.false))) Option.none)]) (.seq (.region [(.mk
  (Option.some 11) (.mv (.tmp 0)) Option.none), (.mk (Option.some 12) (.call 100 [(.tmp 11), (.const (.int .u64 1))]) Option.none), (.mk (Option.some 10) (.mv (.tmp 12))
  Option.none), (.mk (Option.some 13) (.extract (.tmp 10) 0) Option.none), (.mk (Option.some 14) (.extract (.tmp 10) 1) Option.none), (.mk (Option.some 4) (.mv (.tmp 13))
  Option.none), (.mk (Option.some 5) (.mv (.tmp 14)) Option.none)]) (.seq (.seq (.region [(.mk (Option.some 15) (.mv (.tmp 5)) Option.none), (.mk (Option.some 16) (.un .not (.tmp
  15)) Option.none), (.mk (Option.some 17) (.mv (.tmp 16)) Option.none), (.mk (Option.some 18) (.mv (.tmp 4)) (Option.some (17, Bool.false))), (.mk (Option.some 19) (.atSlice 1
  (.tmp 18) (.const (.int .i64 0))) (Option.some (17, Bool.false))), (.mk (Option.some 20) (.load 1 Bool.false (.tmp 19)) (Option.some (17, Bool.false))), (.mk (Option.some 21)
  (.bin .gtr (.tmp 20) (.const (.int .u8 8))) (Option.some (17, Bool.false))), (.mk (Option.some 22) (.pick (.tmp 17) (.const (.bool Bool.true)) (.tmp 21)) Option.none)]) (.cond
  (.tmp 22) (.seq (.region [(.mk (Option.some 2) (.mv (.const (.int .u64 0))) Option.none), (.mk (Option.some 3) (.mv (.const (.bool Bool.false))) Option.none)]) .ret) .skip))
  (.seq (.region [(.mk (Option.some 24) (.mv (.tmp 0)) Option.none), (.mk (Option.some 25) (.mv (.tmp 4)) Option.none), (.mk (Option.some 26) (.atSlice 1 (.tmp 25) (.const (.int
  .i64 0))) Option.none), (.mk (Option.some 27) (.load 1 Bool.false (.tmp 26)) Option.none), (.mk (Option.some 28) (.conv .u64 (.tmp 27)) Option.none), (.mk (Option.some 29) (.call
  100 [(.tmp 24), (.tmp 28)]) Option.none), (.mk (Option.some 23) (.mv (.tmp 29)) Option.none), (.mk (Option.some 30) (.extract (.tmp 23) 0) Option.none), (.mk (Option.some 31)
  (.extract (.tmp 23) 1) Option.none), (.mk (Option.some 6) (.mv (.tmp 30)) Option.none), (.mk (Option.some 5) (.mv (.tmp 31)) Option.none)]) (.seq (.seq (.region [(.mk
  (Option.some 32) (.mv (.tmp 5)) Option.none), (.mk (Option.some 33) (.un .not (.tmp 32)) Option.none), (.mk (Option.some 34) (.mv (.tmp 33)) Option.none), (.mk (Option.some 35)
  (.mv (.tmp 6)) (Option.some (34, Bool.false))), (.mk (Option.some 36) (.len (.tmp 35)) (Option.some (34, Bool.false))), (.mk (Option.some 37) (.bin .gtr (.tmp 36) (.const (.int
  .i64 0))) (Option.some (34, Bool.false))), (.mk (Option.some 38) (.mv (.tmp 37)) (Option.some (34, Bool.false))), (.mk (Option.some 39) (.mv (.tmp 6)) (Option.some (38,
  Bool.true))), (.mk (Option.some 40) (.atSlice 1 (.tmp 39) (.const (.int .i64 0))) (Option.some (38, Bool.true))), (.mk (Option.some 41) (.load 1 Bool.false (.tmp 40))
  (Option.some (38, Bool.true))), (.mk (Option.some 42) (.bin .eql (.tmp 41) (.const (.int .u8 0))) (Option.some (38, Bool.true))), (.mk (Option.some 43) (.pick (.tmp 38) (.tmp 42)
  (.const (.bool Bool.false))) (Option.some (34, Bool.false))), (.mk (Option.some 44) (.pick (.tmp 34) (.const (.bool Bool.true)) (.tmp 43)) Option.none)]) (.cond (.tmp 44) (.seq
  (.region [(.mk (Option.some 2) (.mv (.const (.int .u64 0))) Option.none), (.mk (Option.some 3) (.mv (.const (.bool Bool.false))) Option.none)]) .ret) .skip)) (.seq (.region [(.mk
  (Option.some 7) (.mv (.const (.int .u64 0))) Option.none)]) (.seq (.seq (.region [(.mk (Option.some 45) (.mv (.tmp 6)) Option.none), (.mk (Option.some 46) (.len (.tmp 45))
  Option.none), (.mk (Option.some 47) (.mv (.const (.int .i64 0))) Option.none)]) (.block 0 (.loop (.seq (.region [(.mk (Option.some 48) (.bin .lss (.tmp 47) (.tmp 46))
  Option.none)]) (.seq (.cond (.tmp 48) .skip (.exit 0)) (.seq (.block 1 (.seq (.region [(.mk (Option.some 49) (.atSlice 1 (.tmp 45) (.tmp 47)) Option.none), (.mk (Option.some 50)
  (.load 1 Bool.false (.tmp 49)) Option.none), (.mk (Option.some 9) (.mv (.tmp 50)) Option.none)]) (.region [(.mk (Option.some 51) (.mv (.tmp 7)) Option.none), (.mk (Option.some
  52) (.bin .shl (.tmp 51) (.const (.int .u64 8))) Option.none), (.mk (Option.some 53) (.mv (.tmp 9)) Option.none), (.mk (Option.some 54) (.conv .u64 (.tmp 53)) Option.none), (.mk
  (Option.some 55) (.bin .or (.tmp 52) (.tmp 54)) Option.none), (.mk (Option.some 7) (.mv (.tmp 55)) Option.none)]))) (.region [(.mk (Option.some 56) (.bin .add (.tmp 47) (.const
  (.int .i64 1))) Option.none), (.mk (Option.some 47) (.mv (.tmp 56)) Option.none)]))))))) (.seq (.region [(.mk (Option.some 57) (.mv (.tmp 7)) Option.none), (.mk (Option.some 2)
  (.mv (.tmp 57)) Option.none), (.mk (Option.some 3) (.mv (.const (.bool Bool.true))) Option.none)]) .ret)))))))) 58 [(.tmp 2), (.tmp 3)])
def a79 : AFn :=
  (.mk (.seq (.region [(.mk (Option.some 1) (.box (.tmp 0)) Option.none), (.mk (Option.some 2) (.mv (.const (.bool Bool.false))) Option.none)]) (.seq (.seq (.region [(.mk
  (Option.some 3) (.fieldAddr 0 (.tmp 1)) Option.none), (.mk (Option.some 4) (.load 1 Bool.false (.tmp 3)) Option.none)]) (.block 0 (.seq (.block 3 (.seq (.block 2 (.seq (.block 1
  (.seq (.seq (.seq (.seq (.region [(.mk (Option.some 6) (.bin .eql (.tmp 4) (.const (.int .i64 1))) Option.none), (.mk (Option.some 5) (.mv (.tmp 6)) Option.none)]) (.cond (.tmp
  5) .skip (.region [(.mk (Option.some 7) (.bin .eql (.tmp 4) (.const (.int .i64 3))) Option.none), (.mk (Option.some 5) (.mv (.tmp 7)) Option.none)]))) (.cond (.tmp 5) (.exit 1)
  .skip)) (.seq (.seq (.seq (.region [(.mk (Option.some 9) (.bin .eql (.tmp 4) (.const (.int .i64 2))) Option.none), (.mk (Option.some 8) (.mv (.tmp 9)) Option.none)]) (.cond (.tmp
  8) .skip (.seq (.region [(.mk (Option.some 10) (.bin .eql (.tmp 4) (.const (.int .i64 4))) Option.none), (.mk (Option.some 8) (.mv (.tmp 10)) Option.none)]) (.cond (.tmp 8) .skip
  (.region [(.mk (Option.some 11) (.bin .eql (.tmp 4) (.const (.int .i64 6))) Option.none), (.mk (Option.some 8) (.mv (.tmp 11)) Option.none)]))))) (.cond (.tmp 8) (.exit 2)
  .skip)) (.seq (.region [(.mk (Option.some 13) (.bin .eql (.tmp 4) (.const (.int .i64 5))) Option.none), (.mk (Option.some 12) (.mv (.tmp 13)) Option.none)]) (.cond (.tmp 12)
  (.exit 3) .skip)))) (.exit 0))) (.seq (.region [(.mk (Option.some 14) (.fieldAddr 2 (.tmp 1)) Option.none), (.mk (Option.some 15) (.load 1 Bool.false (.tmp 14)) Option.none),
  (.mk (Option.some 16) (.bin .neq (.tmp 15) (.const (.int .i64 0))) Option.none)]) (.cond (.tmp 16) (.seq (.region [(.mk (Option.some 2) (.mv (.const (.bool Bool.false)))
  Option.none)]) .ret) .skip)))) (.seq (.seq (.region [(.mk (Option.some 17) (.fieldAddr 3 (.tmp 1)) Option.none), (.mk (Option.some 18) (.load 1 Bool.false (.tmp 17))
  Option.none), (.mk (Option.some 19) (.bin .eql (.tmp 18) (.const (.int .i64 0))) Option.none), (.mk (Option.some 2) (.mv (.tmp 19)) Option.none)]) .ret) (.exit 0)))) (.seq (.seq
  (.region [(.mk (Option.some 2) (.mv (.const (.bool Bool.true))) Option.none)]) .ret) (.exit 0))))) (.seq (.region [(.mk (Option.some 2) (.mv (.const (.bool Bool.false)))
  Option.none)]) .ret))) 20 [(.tmp 2)])
def a80 : AFn :=
  (.mk (.seq (.region [(.mk (Option.some 2) (.mv (.const (.bool Bool.false))) Option.none)]) (.seq (.region [(.mk (Option.some 3) (.mv (.tmp 0)) Option.none), (.mk (Option.some 4)
  (.lenStr (.tmp 3)) Option.none), (.mk (Option.some 5) (.bin .leq (.tmp 4) (.const (.int .i64 16))) Option.none), (.mk (Option.some 6) (.mv (.tmp 5)) Option.none), (.mk
  (Option.some 7) (.mv (.tmp 0)) (Option.some (6, Bool.true))), (.mk (Option.some 8) (.call 101 [(.tmp 7), (.const (.string (ByteArray.mk #[126])))]) (Option.some (6, Bool.true))),
  (.mk (Option.some 9) (.pick (.tmp 6) (.tmp 8) (.const (.bool Bool.false))) Option.none), (.mk (Option.some 10) (.mv (.tmp 9)) Option.none), (.mk (Option.some 11) (.mv (.tmp 0))
  (Option.some (10, Bool.true))), (.mk (Option.some 12) (.cutStr (.tmp 11) (Option.some (.const (.int .i64 1))) Option.none) (Option.some (10, Bool.true))), (.mk (Option.some 13)
  (.call 90 [(.tmp 12)]) (Option.some (10, Bool.true))), (.mk (Option.some 14) (.pick (.tmp 10) (.tmp 13) (.const (.bool Bool.false))) Option.none), (.mk (Option.some 2) (.mv (.tmp
  14)) Option.none)]) .ret)) 15 [(.tmp 2)])
def a83 : AFn :=
  (.mk (.seq (.region [(.mk (Option.some 4) (.mv (.const (.string (ByteArray.mk #[])))) Option.none)]) (.seq (.seq (.region [(.mk (Option.some 10) (.mv (.tmp 1)) Option.none), (.mk
  (Option.some 11) (.bin .eql (.tmp 10) (.const (.int .i64 10))) Option.none)]) (.cond (.tmp 11) (.seq (.seq (.region [(.mk (Option.some 12) (.mv (.tmp 0)) Option.none), (.mk
  (Option.some 13) (.bin .leq (.const (.int .i64 0)) (.tmp 12)) Option.none), (.mk (Option.some 14) (.mv (.tmp 13)) Option.none), (.mk (Option.some 15) (.mv (.tmp 0)) (Option.some
  (14, Bool.true))), (.mk (Option.some 16) (.bin .lss (.tmp 15) (.const (.int .i64 100))) (Option.some (14, Bool.true))), (.mk (Option.some 17) (.pick (.tmp 14) (.tmp 16) (.const
  (.bool Bool.false))) Option.none)]) (.cond (.tmp 17) (.seq (.region [(.mk (Option.some 18) (.mv (.tmp 0)) Option.none), (.mk (Option.some 19) (.call 102 [(.tmp 18)])
  Option.none), (.mk (Option.some 4) (.mv (.tmp 19)) Option.none)]) .ret) .skip)) (.seq (.region [(.mk (Option.some 5) (.alloc [(.int .u8 0), (.int .u8 0), (.int .u8 0), (.int .u8
  0), (.int .u8 0), (.int .u8 0), (.int .u8 0), (.int .u8 0), (.int .u8 0), (.int .u8 0), (.int .u8 0), (.int .u8 0), (.int .u8 0), (.int .u8 0), (.int .u8 0), (.int .u8 0), (.int
  .u8 0), (.int .u8 0), (.int .u8 0), (.int .u8 0), (.int .u8 0), (.int .u8 0), (.int .u8 0), (.int .u8 0)]) Option.none)]) (.seq (.region [(.mk (Option.some 20) (.mv (.tmp 0))
  Option.none), (.mk (Option.some 21) (.conv .u64 (.tmp 20)) Option.none), (.mk (Option.some 6) (.mv (.tmp 21)) Option.none)]) (.seq (.seq (.region [(.mk (Option.some 22) (.mv
  (.tmp 0)) Option.none), (.mk (Option.some 23) (.bin .lss (.tmp 22) (.const (.int .i64 0))) Option.none)]) (.cond (.tmp 23) (.region [(.mk (Option.some 24) (.mv (.tmp 6))
  Option.none), (.mk (Option.some 25) (.un .neg (.tmp 24)) Option.none), (.mk (Option.some 6) (.mv (.tmp 25)) Option.none)]) .skip)) (.seq (.region [(.mk (Option.some 26) (.mv
  (.tmp 6)) Option.none), (.mk (Option.some 27) (.call 103 [(.tmp 26)]) Option.none), (.mk (Option.some 7) (.mv (.tmp 27)) Option.none)]) (.seq (.region [(.mk (Option.some 28) (.mv
  (.tmp 7)) Option.none), (.mk (Option.some 29) (.bin .add (.const (.int .i64 1)) (.tmp 28)) Option.none), (.mk (Option.some 30) (.cutArray 24 1 (.tmp 5) (Option.some (.const (.int
  .i64 1))) (Option.some (.tmp 29)) Option.none) Option.none), (.mk (Option.some 31) (.mv (.tmp 6)) Option.none), (.mk (Option.some 32) (.call 104 [(.tmp 30), (.tmp 31)])
  Option.none)]) (.seq (.seq (.region [(.mk (Option.some 33) (.mv (.tmp 0)) Option.none), (.mk (Option.some 34) (.bin .lss (.tmp 33) (.const (.int .i64 0))) Option.none)]) (.cond
  (.tmp 34) (.seq (.region [(.mk (Option.some 35) (.atArray 24 1 (.tmp 5) (.const (.int .i64 0))) Option.none), (.mk Option.none (.store 1 (.tmp 35) (.const (.int .u8 45)))
  Option.none)]) (.seq (.region [(.mk (Option.some 36) (.mv (.tmp 7)) Option.none), (.mk (Option.some 37) (.bin .add (.const (.int .i64 1)) (.tmp 36)) Option.none), (.mk
  (Option.some 38) (.cutArray 24 1 (.tmp 5) Option.none (Option.some (.tmp 37)) Option.none) Option.none), (.mk (Option.some 39) (.textOf (.tmp 38)) Option.none), (.mk (Option.some
  4) (.mv (.tmp 39)) Option.none)]) .ret)) .skip)) (.seq (.region [(.mk (Option.some 40) (.mv (.tmp 7)) Option.none), (.mk (Option.some 41) (.bin .add (.const (.int .i64 1)) (.tmp
  40)) Option.none), (.mk (Option.some 42) (.cutArray 24 1 (.tmp 5) (Option.some (.const (.int .i64 1))) (Option.some (.tmp 41)) Option.none) Option.none), (.mk (Option.some 43)
  (.textOf (.tmp 42)) Option.none), (.mk (Option.some 4) (.mv (.tmp 43)) Option.none)]) .ret)))))))) .skip)) (.seq (.region [(.mk (Option.some 45) (.mv (.tmp 0)) Option.none), (.mk
  (Option.some 46) (.conv .u64 (.tmp 45)) Option.none), (.mk (Option.some 47) (.mv (.tmp 1)) Option.none), (.mk (Option.some 48) (.mv (.tmp 0)) Option.none), (.mk (Option.some 49)
  (.bin .lss (.tmp 48) (.const (.int .i64 0))) Option.none), (.mk (Option.some 50) (.call 105 [(.const (.slice Option.none 0 0)), (.tmp 46), (.tmp 47), (.tmp 49), (.const (.bool
  Bool.false))]) Option.none), (.mk (Option.some 44) (.mv (.tmp 50)) Option.none), (.mk (Option.some 51) (.extract (.tmp 44) 0) Option.none), (.mk (Option.some 52) (.extract (.tmp
  44) 1) Option.none), (.mk (Option.some 8) (.mv (.tmp 51)) Option.none), (.mk (Option.some 9) (.mv (.tmp 52)) Option.none)]) (.seq (.region [(.mk (Option.some 53) (.mv (.tmp 9))
  Option.none), (.mk (Option.some 4) (.mv (.tmp 53)) Option.none)]) .ret)))) 54 [(.tmp 4)])
def a86 : AFn :=
  (.mk (.seq (.region [(.mk (Option.some 4) (.mv (.const (.slice Option.none 0 0))) Option.none)]) (.seq (.region [(.mk (Option.some 10) (.mv (.tmp 0)) Option.none), (.mk
  (Option.some 11) (.call 108 [(.tmp 10)]) Option.none), (.mk (Option.some 5) (.mv (.tmp 11)) Option.none)]) (.seq (.seq (.region [(.mk (Option.some 12) (.mv (.tmp 1))
  Option.none), (.mk (Option.some 13) (.bin .lss (.tmp 12) (.const (.int .i64 0))) Option.none), (.mk (Option.some 14) (.mv (.tmp 13)) Option.none), (.mk (Option.some 15) (.mv
  (.tmp 1)) (Option.some (14, Bool.false))), (.mk (Option.some 16) (.mv (.tmp 5)) (Option.some (14, Bool.false))), (.mk (Option.some 17) (.bin .gtr (.tmp 15) (.tmp 16))
  (Option.some (14, Bool.false))), (.mk (Option.some 18) (.pick (.tmp 14) (.const (.bool Bool.true)) (.tmp 17)) Option.none)]) (.cond (.tmp 18) (.region [(.mk (Option.some 19) (.mv
  (.tmp 5)) Option.none), (.mk (Option.some 1) (.mv (.tmp 19)) Option.none)]) .skip)) (.seq (.region [(.mk (Option.some 20) (.mv (.tmp 1)) Option.none), (.mk (Option.some 21)
  (.makeSlice 1 16 [(.str [])] (.tmp 20) (.tmp 20)) Option.none), (.mk (Option.some 6) (.mv (.tmp 21)) Option.none)]) (.seq (.seq (.region [(.mk (Option.some 7) (.mv (.const (.int
  .i64 0))) Option.none)]) (.block 0 (.loop (.seq (.seq (.region [(.mk (Option.some 22) (.mv (.tmp 7)) Option.none), (.mk (Option.some 23) (.mv (.tmp 1)) Option.none), (.mk
  (Option.some 24) (.bin .sub (.tmp 23) (.const (.int .i64 1))) Option.none), (.mk (Option.some 25) (.bin .lss (.tmp 22) (.tmp 24)) Option.none)]) (.cond (.tmp 25) .skip (.exit
  0))) (.seq (.block 1 (.seq (.region [(.mk (Option.some 29) (.mv (.tmp 0)) Option.none), (.mk (Option.some 30) (.call 109 [(.tmp 29)]) Option.none), (.mk (Option.some 28) (.mv
  (.tmp 30)) Option.none), (.mk (Option.some 31) (.extract (.tmp 28) 0) Option.none), (.mk (Option.some 32) (.extract (.tmp 28) 1) Option.none), (.mk (Option.some 8) (.mv (.tmp
  31)) Option.none), (.mk (Option.some 9) (.mv (.tmp 32)) Option.none)]) (.seq (.region [(.mk (Option.some 33) (.mv (.tmp 6)) Option.none), (.mk (Option.some 34) (.mv (.tmp 7))
  Option.none), (.mk (Option.some 35) (.mv (.tmp 0)) Option.none), (.mk (Option.some 36) (.mv (.tmp 9)) Option.none), (.mk (Option.some 37) (.cutStr (.tmp 35) Option.none
  (Option.some (.tmp 36))) Option.none), (.mk (Option.some 38) (.atSlice 1 (.tmp 33) (.tmp 34)) Option.none), (.mk Option.none (.store 1 (.tmp 38) (.tmp 37)) Option.none)])
  (.region [(.mk (Option.some 39) (.mv (.tmp 0)) Option.none), (.mk (Option.some 40) (.mv (.tmp 9)) Option.none), (.mk (Option.some 41) (.cutStr (.tmp 39) (Option.some (.tmp 40))
  Option.none) Option.none), (.mk (Option.some 0) (.mv (.tmp 41)) Option.none)])))) (.region [(.mk (Option.some 26) (.mv (.tmp 7)) Option.none), (.mk (Option.some 27) (.bin .add
  (.tmp 26) (.const (.int .i64 1))) Option.none), (.mk (Option.some 7) (.mv (.tmp 27)) Option.none)])))))) (.seq (.seq (.region [(.mk (Option.some 42) (.mv (.tmp 1)) Option.none),
  (.mk (Option.some 43) (.bin .gtr (.tmp 42) (.const (.int .i64 0))) Option.none)]) (.cond (.tmp 43) (.region [(.mk (Option.some 44) (.mv (.tmp 6)) Option.none), (.mk (Option.some
  45) (.mv (.tmp 1)) Option.none), (.mk (Option.some 46) (.bin .sub (.tmp 45) (.const (.int .i64 1))) Option.none), (.mk (Option.some 47) (.mv (.tmp 0)) Option.none), (.mk
  (Option.some 48) (.atSlice 1 (.tmp 44) (.tmp 46)) Option.none), (.mk Option.none (.store 1 (.tmp 48) (.tmp 47)) Option.none)]) .skip)) (.seq (.region [(.mk (Option.some 49) (.mv
  (.tmp 6)) Option.none), (.mk (Option.some 4) (.mv (.tmp 49)) Option.none)]) .ret))))))) 50 [(.tmp 4)])
def a87 : AFn :=
  (.mk (.seq (.region [(.mk (Option.some 4) (.mv (.const (.int .i64 0))) Option.none)]) (.seq (.seq (.region [(.mk (Option.some 7) (.mv (.tmp 1)) Option.none), (.mk (Option.some 8)
  (.lenStr (.tmp 7)) Option.none), (.mk (Option.some 9) (.bin .eql (.tmp 8) (.const (.int .i64 0))) Option.none)]) (.cond (.tmp 9) (.seq (.region [(.mk (Option.some 10) (.mv (.tmp
  0)) Option.none), (.mk (Option.some 11) (.call 108 [(.tmp 10)]) Option.none), (.mk (Option.some 12) (.bin .add (.tmp 11) (.const (.int .i64 1))) Option.none), (.mk (Option.some
  4) (.mv (.tmp 12)) Option.none)]) .ret) .skip)) (.seq (.seq (.region [(.mk (Option.some 13) (.mv (.tmp 1)) Option.none), (.mk (Option.some 14) (.lenStr (.tmp 13)) Option.none),
  (.mk (Option.some 15) (.bin .eql (.tmp 14) (.const (.int .i64 1))) Option.none)]) (.cond (.tmp 15) (.seq (.region [(.mk (Option.some 16) (.mv (.tmp 0)) Option.none), (.mk
  (Option.some 17) (.mv (.tmp 1)) Option.none), (.mk (Option.some 18) (.byteAt (.tmp 17) (.const (.int .i64 0))) Option.none), (.mk (Option.some 19) (.call 110 [(.tmp 16), (.tmp
  18)]) Option.none), (.mk (Option.some 4) (.mv (.tmp 19)) Option.none)]) .ret) .skip)) (.seq (.region [(.mk (Option.some 5) (.mv (.const (.int .i64 0))) Option.none)]) (.block 0
  (.loop (.block 1 (.seq (.region [(.mk (Option.some 20) (.mv (.tmp 0)) Option.none), (.mk (Option.some 21) (.mv (.tmp 1)) Option.none), (.mk (Option.some 22) (.call 88 [(.tmp 20),
  (.tmp 21)]) Option.none), (.mk (Option.some 6) (.mv (.tmp 22)) Option.none)]) (.seq (.seq (.region [(.mk (Option.some 23) (.mv (.tmp 6)) Option.none), (.mk (Option.some 24) (.bin
  .eql (.tmp 23) (.const (.int .i64 (-1)))) Option.none)]) (.cond (.tmp 24) (.seq (.region [(.mk (Option.some 25) (.mv (.tmp 5)) Option.none), (.mk (Option.some 4) (.mv (.tmp 25))
  Option.none)]) .ret) .skip)) (.seq (.region [(.mk (Option.some 26) (.mv (.tmp 5)) Option.none), (.mk (Option.some 27) (.bin .add (.tmp 26) (.const (.int .i64 1))) Option.none),
  (.mk (Option.some 5) (.mv (.tmp 27)) Option.none)]) (.region [(.mk (Option.some 28) (.mv (.tmp 0)) Option.none), (.mk (Option.some 29) (.mv (.tmp 6)) Option.none), (.mk
  (Option.some 30) (.mv (.tmp 1)) Option.none), (.mk (Option.some 31) (.lenStr (.tmp 30)) Option.none), (.mk (Option.some 32) (.bin .add (.tmp 29) (.tmp 31)) Option.none), (.mk
  (Option.some 33) (.cutStr (.tmp 28) (Option.some (.tmp 32)) Option.none) Option.none), (.mk (Option.some 0) (.mv (.tmp 33)) Option.none)]))))))))))) 34 [(.tmp 4)])
def a88 : AFn :=
  (.mk (.seq (.region [(.mk (Option.some 4) (.mv (.const (.int .i64 0))) Option.none)]) (.seq (.region [(.mk (Option.some 5) (.mv (.tmp 0)) Option.none), (.mk (Option.some 6) (.mv
  (.tmp 1)) Option.none), (.mk (Option.some 7) (.call 111 [(.tmp 5), (.tmp 6)]) Option.none), (.mk (Option.some 4) (.mv (.tmp 7)) Option.none)]) .ret)) 8 [(.tmp 4)])
def a89 : AFn :=
  (.mk (.seq (.region [(.mk (Option.some 6) (.mv (.const (.int .i64 0))) Option.none), (.mk (Option.some 7) (.mv (.const .nilIface)) Option.none)]) (.seq (.region [(.mk (Option.some
  10) (.mv (.tmp 0)) Option.none), (.mk (Option.some 11) (.mv (.tmp 1)) Option.none), (.mk (Option.some 12) (.mv (.tmp 2)) Option.none), (.mk (Option.some 13) (.call 112 [(.tmp
  10), (.tmp 11), (.tmp 12)]) Option.none), (.mk (Option.some 9) (.mv (.tmp 13)) Option.none), (.mk (Option.some 14) (.extract (.tmp 9) 0) Option.none), (.mk (Option.some 15)
  (.extract (.tmp 9) 1) Option.none), (.mk (Option.some 8) (.mv (.tmp 14)) Option.none), (.mk (Option.some 7) (.mv (.tmp 15)) Option.none)]) (.seq (.seq (.region [(.mk (Option.some
  16) (.mv (.tmp 7)) Option.none), (.mk (Option.some 17) (.eq (.iface Bool.true) Bool.true (.tmp 16) (.const .nilIface)) Option.none)]) (.cond (.tmp 17) (.seq (.region [(.mk
  (Option.some 18) (.mv (.tmp 8)) Option.none), (.mk (Option.some 19) (.mv (.tmp 0)) Option.none), (.mk (Option.some 20) (.mv (.tmp 1)) Option.none), (.mk (Option.some 21) (.mv
  (.tmp 2)) Option.none), (.mk (Option.some 22) (.mv (.tmp 7)) Option.none), (.mk (Option.some 23) (.call 113 [(.const (.string (ByteArray.mk #[80, 97, 114, 115, 101, 73, 110,
  116]))), (.tmp 19), (.tmp 20), (.tmp 21), (.tmp 22)]) Option.none), (.mk (Option.some 6) (.mv (.tmp 18)) Option.none), (.mk (Option.some 7) (.mv (.tmp 23)) Option.none)]) .ret)
  .skip)) (.seq (.region [(.mk (Option.some 24) (.mv (.tmp 8)) Option.none), (.mk (Option.some 6) (.mv (.tmp 24)) Option.none), (.mk (Option.some 7) (.mv (.const .nilIface))
  Option.none)]) .ret)))) 25 [(.tmp 6), (.tmp 7)])
def a90 : AFn :=
  (.mk (.seq (.region [(.mk (Option.some 2) (.mv (.const (.bool Bool.false))) Option.none)]) (.seq (.seq (.region [(.mk (Option.some 5) (.mv (.tmp 0)) Option.none), (.mk (Option.some
  6) (.bytesOf (.tmp 5)) Option.none), (.mk (Option.some 7) (.len (.tmp 6)) Option.none), (.mk (Option.some 8) (.mv (.const (.int .i64 0))) Option.none)]) (.block 0 (.loop (.seq
  (.region [(.mk (Option.some 9) (.bin .lss (.tmp 8) (.tmp 7)) Option.none)]) (.seq (.cond (.tmp 9) .skip (.exit 0)) (.seq (.block 1 (.seq (.region [(.mk (Option.some 10) (.atSlice
  1 (.tmp 6) (.tmp 8)) Option.none), (.mk (Option.some 11) (.load 1 Bool.false (.tmp 10)) Option.none), (.mk (Option.some 4) (.mv (.tmp 11)) Option.none)]) (.seq (.region [(.mk
  (Option.some 12) (.mv (.tmp 4)) Option.none), (.mk (Option.some 13) (.bin .geq (.tmp 12) (.const (.int .u8 97))) Option.none), (.mk (Option.some 14) (.mv (.tmp 13)) Option.none),
  (.mk (Option.some 15) (.mv (.tmp 4)) (Option.some (14, Bool.true))), (.mk (Option.some 16) (.bin .leq (.tmp 15) (.const (.int .u8 122))) (Option.some (14, Bool.true))), (.mk
  (Option.some 17) (.pick (.tmp 14) (.tmp 16) (.const (.bool Bool.false))) Option.none), (.mk (Option.some 18) (.mv (.tmp 17)) Option.none), (.mk (Option.some 19) (.mv (.tmp 4))
  (Option.some (18, Bool.false))), (.mk (Option.some 20) (.bin .geq (.tmp 19) (.const (.int .u8 48))) (Option.some (18, Bool.false))), (.mk (Option.some 21) (.mv (.tmp 20))
  (Option.some (18, Bool.false))), (.mk (Option.some 22) (.mv (.tmp 4)) (Option.some (21, Bool.true))), (.mk (Option.some 23) (.bin .leq (.tmp 22) (.const (.int .u8 57)))
  (Option.some (21, Bool.true))), (.mk (Option.some 24) (.pick (.tmp 21) (.tmp 23) (.const (.bool Bool.false))) (Option.some (18, Bool.false))), (.mk (Option.some 25) (.pick (.tmp
  18) (.const (.bool Bool.true)) (.tmp 24)) Option.none), (.mk (Option.some 26) (.mv (.tmp 25)) Option.none), (.mk (Option.some 27) (.mv (.tmp 4)) (Option.some (26, Bool.false))),
  (.mk (Option.some 28) (.bin .eql (.tmp 27) (.const (.int .u8 46))) (Option.some (26, Bool.false))), (.mk (Option.some 29) (.pick (.tmp 26) (.const (.bool Bool.true)) (.tmp 28))
  Option.none), (.mk (Option.some 30) (.mv (.tmp 29)) Option.none), (.mk (Option.some 31) (.mv (.tmp 4)) (Option.some (30, Bool.false))), (.mk (Option.some 32) (.bin .eql (.tmp 31)
  (.const (.int .u8 95))) (Option.some (30, Bool.false))), (.mk (Option.some 33) (.pick (.tmp 30) (.const (.bool Bool.true)) (.tmp 32)) Option.none), (.mk (Option.some 34) (.un
  .not (.tmp 33)) Option.none)]) (.cond (.tmp 34) (.seq (.region [(.mk (Option.some 2) (.mv (.const (.bool Bool.false))) Option.none)]) .ret) .skip)))) (.region [(.mk (Option.some
  35) (.bin .add (.tmp 8) (.const (.int .i64 1))) Option.none), (.mk (Option.some 8) (.mv (.tmp 35)) Option.none)]))))))) (.seq (.region [(.mk (Option.some 36) (.mv (.tmp 0))
  Option.none), (.mk (Option.some 37) (.bin .neq (.tmp 36) (.const (.string (ByteArray.mk #[])))) Option.none), (.mk (Option.some 2) (.mv (.tmp 37)) Option.none)]) .ret))) 38
  [(.tmp 2)])
def a94 : AFn :=
  (.mk (.seq (.region [(.mk (Option.some 6) (.box (.tmp 2)) Option.none), (.mk (Option.some 8) (.mv (.const (.bool Bool.false))) Option.none)]) (.block 0 (.loop (.block 1 (.seq (.seq
  (.region [(.mk (Option.some 16) (.mv (.tmp 0)) Option.none), (.mk (Option.some 17) (.call 114 [(.tmp 16)]) Option.none), (.mk (Option.some 18) (.mv (.tmp 3)) Option.none), (.mk
  (Option.some 19) (.invoke (.tmp 17) [(166, (171, Option.none))] [(.tmp 18)]) Option.none)]) (.cond (.tmp 19) (.seq (.region [(.mk (Option.some 20) (.load 3 Bool.true (.tmp 6))
  Option.none), (.mk (Option.some 21) (.call 115 [(.tmp 20)]) Option.none), (.mk (Option.some 22) (.mv (.tmp 0)) Option.none), (.mk (Option.some 23) (.call 91 [(.tmp 22)])
  Option.none), (.mk (Option.some 24) (.call 116 [(.tmp 21), (.tmp 23)]) Option.none)]) (.seq (.region [(.mk (Option.some 8) (.mv (.const (.bool Bool.true))) Option.none)]) .ret))
  .skip)) (.seq (.seq (.region [(.mk (Option.some 26) (.mv (.tmp 0)) Option.none), (.mk (Option.some 27) (.isIface [] [8, 10, 11, 14, 15, 16, 17, 19, 69, 75, 81, 95, 97, 98, 99,
  102, 129, 130, 131, 134, 135, 136, 141, 165, 166, 167, 186, 189, 206, 226] Bool.true (.tmp 26)) Option.none), (.mk (Option.some 25) (.mv (.tmp 27)) Option.none), (.mk
  (Option.some 28) (.extract (.tmp 25) 0) Option.none), (.mk (Option.some 29) (.extract (.tmp 25) 1) Option.none), (.mk (Option.some 9) (.mv (.tmp 28)) Option.none), (.mk
  (Option.some 10) (.mv (.tmp 29)) Option.none)]) (.seq (.region [(.mk (Option.some 30) (.mv (.tmp 10)) Option.none), (.mk (Option.some 31) (.mv (.tmp 30)) Option.none), (.mk
  (Option.some 32) (.mv (.tmp 9)) (Option.some (31, Bool.true))), (.mk (Option.some 33) (.mv (.tmp 1)) (Option.some (31, Bool.true))), (.mk (Option.some 34) (.invoke (.tmp 32) []
  [(.tmp 33)]) (Option.some (31, Bool.true))), (.mk (Option.some 35) (.pick (.tmp 31) (.tmp 34) (.const (.bool Bool.false))) Option.none)]) (.cond (.tmp 35) (.seq (.region [(.mk
  (Option.some 8) (.mv (.const (.bool Bool.true))) Option.none)]) .ret) .skip))) (.seq (.region [(.mk (Option.some 36) (.mv (.tmp 0)) Option.none)]) (.block 2 (.seq (.region [(.mk
  (Option.some 37) (.isIface [95, 97, 98, 99, 129, 130, 131, 189] [8, 10, 11, 14, 15, 16, 17, 19, 69, 75, 81, 102, 134, 135, 136, 141, 165, 166, 167, 186, 206, 226] Bool.true (.tmp
  36)) Option.none), (.mk (Option.some 38) (.extract (.tmp 37) 1) Option.none), (.mk (Option.some 39) (.extract (.tmp 37) 0) Option.none)]) (.cond (.tmp 38) (.seq (.region [(.mk
  (Option.some 11) (.mv (.tmp 39)) Option.none)]) (.seq (.region [(.mk (Option.some 40) (.mv (.tmp 11)) Option.none), (.mk (Option.some 41) (.invoke (.tmp 40) [(95, (164,
  (Option.some (0, (1, Bool.true))))), (97, (164, Option.none)), (129, (164, (Option.some (0, (1, Bool.true))))), (189, (183, Option.none))] []) Option.none), (.mk (Option.some 0)
  (.mv (.tmp 41)) Option.none)]) (.seq (.region [(.mk (Option.some 42) (.mv (.tmp 0)) Option.none), (.mk (Option.some 43) (.eq (.iface Bool.true) Bool.false (.tmp 42) (.const
  .nilIface)) Option.none)]) (.cond (.tmp 43) (.seq (.region [(.mk (Option.some 8) (.mv (.const (.bool Bool.false))) Option.none)]) .ret) .skip)))) (.seq (.region [(.mk
  (Option.some 44) (.isIface [] [8, 10, 11, 14, 15, 16, 17, 19, 69, 75, 81, 95, 97, 98, 99, 102, 129, 130, 131, 134, 135, 136, 141, 165, 166, 167, 186, 189, 206, 226] Bool.true
  (.tmp 36)) Option.none), (.mk (Option.some 45) (.extract (.tmp 44) 1) Option.none), (.mk (Option.some 46) (.extract (.tmp 44) 0) Option.none)]) (.cond (.tmp 45) (.seq (.region
  [(.mk (Option.some 12) (.mv (.tmp 46)) Option.none)]) (.seq (.seq (.region [(.mk (Option.some 47) (.mv (.tmp 12)) Option.none), (.mk (Option.some 48) (.invoke (.tmp 47) [(95,
  (164, (Option.some (0, (1, Bool.true))))), (97, (164, Option.none)), (129, (164, (Option.some (0, (1, Bool.true))))), (189, (183, Option.none))] []) Option.none), (.mk
  (Option.some 49) (.len (.tmp 48)) Option.none), (.mk (Option.some 50) (.mv (.const (.int .i64 0))) Option.none)]) (.block 3 (.loop (.seq (.region [(.mk (Option.some 51) (.bin
  .lss (.tmp 50) (.tmp 49)) Option.none)]) (.seq (.cond (.tmp 51) .skip (.exit 3)) (.seq (.block 4 (.seq (.region [(.mk (Option.some 52) (.atSlice 1 (.tmp 48) (.tmp 50))
  Option.none), (.mk (Option.some 53) (.load 1 Bool.false (.tmp 52)) Option.none), (.mk (Option.some 14) (.mv (.tmp 53)) Option.none)]) (.seq (.seq (.region [(.mk (Option.some 54)
  (.mv (.tmp 14)) Option.none), (.mk (Option.some 55) (.eq (.iface Bool.true) Bool.false (.tmp 54) (.const .nilIface)) Option.none)]) (.cond (.tmp 55) (.exit 4) .skip)) (.seq
  (.region [(.mk (Option.some 56) (.mv (.tmp 14)) Option.none), (.mk (Option.some 57) (.mv (.tmp 1)) Option.none), (.mk (Option.some 58) (.load 3 Bool.true (.tmp 6)) Option.none),
  (.mk (Option.some 59) (.mv (.tmp 3)) Option.none), (.mk (Option.some 60) (.call 94 [(.tmp 56), (.tmp 57), (.tmp 58), (.tmp 59)]) Option.none)]) (.cond (.tmp 60) (.seq (.region
  [(.mk (Option.some 8) (.mv (.const (.bool Bool.true))) Option.none)]) .ret) .skip))))) (.region [(.mk (Option.some 61) (.bin .add (.tmp 50) (.const (.int .i64 1))) Option.none),
  (.mk (Option.some 50) (.mv (.tmp 61)) Option.none)]))))))) (.seq (.region [(.mk (Option.some 8) (.mv (.const (.bool Bool.false))) Option.none)]) .ret))) (.seq (.region [(.mk
  (Option.some 15) (.mv (.tmp 36)) Option.none)]) (.seq (.region [(.mk (Option.some 8) (.mv (.const (.bool Bool.false))) Option.none)]) .ret)))))))))))))) 62 [(.tmp 8)])
def a95 : AFn :=
  (.mk (.seq (.region [(.mk (Option.some 4) (.mv (.const (.int .i64 0))) Option.none), (.mk (Option.some 5) (.mv (.const (.bool Bool.false))) Option.none)]) (.seq (.region [(.mk
  (Option.some 7) (.mv (.tmp 0)) Option.none), (.mk (Option.some 8) (.mv (.tmp 1)) Option.none), (.mk (Option.some 9) (.bin .add (.tmp 7) (.tmp 8)) Option.none), (.mk (Option.some
  6) (.mv (.tmp 9)) Option.none)]) (.seq (.region [(.mk (Option.some 10) (.mv (.tmp 6)) Option.none), (.mk (Option.some 11) (.mv (.tmp 6)) Option.none), (.mk (Option.some 12) (.mv
  (.tmp 0)) Option.none), (.mk (Option.some 13) (.bin .lss (.tmp 11) (.tmp 12)) Option.none), (.mk (Option.some 14) (.mv (.tmp 1)) Option.none), (.mk (Option.some 15) (.bin .lss
  (.tmp 14) (.const (.int .i64 0))) Option.none), (.mk (Option.some 16) (.eqb Bool.false (.tmp 13) (.tmp 15)) Option.none), (.mk (Option.some 4) (.mv (.tmp 10)) Option.none), (.mk
  (Option.some 5) (.mv (.tmp 16)) Option.none)]) .ret))) 17 [(.tmp 4), (.tmp 5)])
def a96 : AFn :=
  (.mk (.seq (.region [(.mk (Option.some 2) (.box (.tmp 0)) Option.none), (.mk (Option.some 3) (.mv (.const (.bool Bool.false))) Option.none)]) (.seq (.region [(.mk (Option.some 4)
  (.load 1 Bool.false (.tmp 1)) Option.none), (.mk (Option.some 5) (.fieldAddr 0 (.tmp 2)) Option.none), (.mk (Option.some 6) (.load 1 Bool.false (.tmp 5)) Option.none), (.mk
  (Option.some 7) (.call 97 [(.tmp 4), (.tmp 6)]) Option.none), (.mk (Option.some 8) (.un .not (.tmp 7)) Option.none), (.mk (Option.some 3) (.mv (.tmp 8)) Option.none)]) .ret)) 9
  [(.tmp 3)])
def a97 : AFn :=
  (.mk (.seq (.region [(.mk (Option.some 4) (.mv (.const (.bool Bool.false))) Option.none)]) (.seq (.region [(.mk (Option.some 5) (.mv (.tmp 0)) Option.none), (.mk (Option.some 6)
  (.mv (.tmp 1)) Option.none), (.mk (Option.some 7) (.call 117 [(.tmp 5), (.tmp 6)]) Option.none), (.mk (Option.some 8) (.bin .geq (.tmp 7) (.const (.int .i64 0))) Option.none),
  (.mk (Option.some 4) (.mv (.tmp 8)) Option.none)]) .ret)) 9 [(.tmp 4)])
def a98 : AFn :=
  (.mk (.seq (.region [(.mk (Option.some 4) (.mv (.const (.int .i64 0))) Option.none)]) (.seq (.seq (.region [(.mk (Option.some 6) (.mv (.tmp 0)) Option.none), (.mk (Option.some 7)
  (.len (.tmp 6)) Option.none), (.mk (Option.some 8) (.mv (.const (.int .i64 0))) Option.none)]) (.block 0 (.loop (.seq (.region [(.mk (Option.some 9) (.bin .lss (.tmp 8) (.tmp 7))
  Option.none)]) (.seq (.cond (.tmp 9) .skip (.exit 0)) (.seq (.block 1 (.seq (.region [(.mk (Option.some 10) (.mv (.tmp 8)) Option.none), (.mk (Option.some 5) (.mv (.tmp 10))
  Option.none)]) (.seq (.region [(.mk (Option.some 11) (.mv (.tmp 1)) Option.none), (.mk (Option.some 12) (.mv (.tmp 0)) Option.none), (.mk (Option.some 13) (.mv (.tmp 5))
  Option.none), (.mk (Option.some 14) (.atSlice 4 (.tmp 12) (.tmp 13)) Option.none), (.mk (Option.some 15) (.load 4 Bool.true (.tmp 14)) Option.none), (.mk (Option.some 16) (.callv
  (.tmp 11) [(.tmp 15)]) Option.none)]) (.cond (.tmp 16) (.seq (.region [(.mk (Option.some 17) (.mv (.tmp 5)) Option.none), (.mk (Option.some 4) (.mv (.tmp 17)) Option.none)])
  .ret) .skip)))) (.region [(.mk (Option.some 18) (.bin .add (.tmp 8) (.const (.int .i64 1))) Option.none), (.mk (Option.some 8) (.mv (.tmp 18)) Option.none)]))))))) (.seq (.region
  [(.mk (Option.some 4) (.mv (.const (.int .i64 (-1)))) Option.none)]) .ret))) 19 [(.tmp 4)])
def a99 : AFn :=
  (.mk (.seq (.region [(.mk (Option.some 4) (.mv (.const (.slice Option.none 0 0))) Option.none)]) (.seq (.seq (.region [(.mk (Option.some 5) (.mv (.tmp 1)) Option.none), (.mk
  (Option.some 6) (.bin .lss (.tmp 5) (.const (.int .i64 0))) Option.none)]) (.cond (.tmp 6) (.region [(.mk (Option.some 7) (.mkIface 9 (.const (.string (ByteArray.mk #[99, 97,
  110, 110, 111, 116, 32, 98, 101, 32, 110, 101, 103, 97, 116, 105, 118, 101])))) Option.none), (.mk Option.none (.extract (.const (.bool Bool.false)) 0) Option.none)]) .skip))
  (.seq (.seq (.region [(.mk (Option.some 8) (.mv (.tmp 1)) Option.none), (.mk (Option.some 9) (.mv (.tmp 0)) Option.none), (.mk (Option.some 10) (.cap (.tmp 9)) Option.none), (.mk
  (Option.some 11) (.mv (.tmp 0)) Option.none), (.mk (Option.some 12) (.len (.tmp 11)) Option.none), (.mk (Option.some 13) (.bin .sub (.tmp 10) (.tmp 12)) Option.none), (.mk
  (Option.some 14) (.bin .sub (.tmp 8) (.tmp 13)) Option.none), (.mk (Option.some 1) (.mv (.tmp 14)) Option.none)]) (.seq (.region [(.mk (Option.some 15) (.mv (.tmp 1))
  Option.none), (.mk (Option.some 16) (.bin .gtr (.tmp 15) (.const (.int .i64 0))) Option.none)]) (.cond (.tmp 16) (.region [(.mk (Option.some 17) (.mv (.tmp 0)) Option.none), (.mk
  (Option.some 18) (.mv (.tmp 0)) Option.none), (.mk (Option.some 19) (.cap (.tmp 18)) Option.none), (.mk (Option.some 20) (.cutSlice 4 (.tmp 17) Option.none (Option.some (.tmp
  19)) Option.none) Option.none), (.mk (Option.some 21) (.mv (.tmp 1)) Option.none), (.mk (Option.some 22) (.appendZ 4 40 [(.int .i64 0), (.str []), (.int .i64 0), (.int .i64 0)]
  (.tmp 20) (.tmp 21)) Option.none), (.mk (Option.some 23) (.mv (.tmp 0)) Option.none), (.mk (Option.some 24) (.len (.tmp 23)) Option.none), (.mk (Option.some 25) (.cutSlice 4
  (.tmp 22) Option.none (Option.some (.tmp 24)) Option.none) Option.none), (.mk (Option.some 0) (.mv (.tmp 25)) Option.none)]) .skip))) (.seq (.region [(.mk (Option.some 26) (.mv
  (.tmp 0)) Option.none), (.mk (Option.some 4) (.mv (.tmp 26)) Option.none)]) .ret)))) 27 [(.tmp 4)])
def a100 : AFn :=
  (.mk (.seq (.region [(.mk (Option.some 4) (.mv (.const (.slice Option.none 0 0))) Option.none), (.mk (Option.some 5) (.mv (.const (.bool Bool.false))) Option.none)]) (.seq (.seq
  (.draws [((.mk (Option.some 7) (.mv (.tmp 1)) Option.none), (0, 13)), ((.mk (Option.some 8) (.mv (.tmp 0)) Option.none), (0, 13)), ((.mk (Option.some 9) (.nilCheck (.tmp 8))
  Option.none), (0, 13)), ((.mk (Option.some 10) (.fieldAddr 0 (.tmp 9)) Option.none), (0, 13)), ((.mk (Option.some 11) (.load 1 Bool.false (.tmp 10)) Option.none), (0, 13)), ((.mk
  (Option.some 12) (.len (.tmp 11)) Option.none), (0, 13)), ((.mk (Option.some 13) (.mv (.tmp 0)) Option.none), (0, 13)), ((.mk (Option.some 14) (.nilCheck (.tmp 13)) Option.none),
  (0, 13)), ((.mk (Option.some 15) (.fieldAddr 1 (.tmp 14)) Option.none), (0, 13)), ((.mk (Option.some 16) (.load 1 Bool.false (.tmp 15)) Option.none), (0, 13)), ((.mk (Option.some
  17) (.bin .sub (.tmp 12) (.tmp 16)) Option.none), (0, 13)), ((.mk (Option.some 18) (.conv .u64 (.tmp 17)) Option.none), (0, 13)), ((.mk (Option.some 19) (.bin .gtr (.tmp 7) (.tmp
  18)) Option.none), (0, 13))]) (.cond (.tmp 19) (.seq (.region [(.mk (Option.some 4) (.mv (.const (.slice Option.none 0 0))) Option.none), (.mk (Option.some 5) (.mv (.const (.bool
  Bool.false))) Option.none)]) .ret) .skip)) (.seq (.draws [((.mk (Option.some 20) (.mv (.tmp 0)) Option.none), (0, 17)), ((.mk (Option.some 21) (.nilCheck (.tmp 20)) Option.none),
  (0, 17)), ((.mk (Option.some 22) (.fieldAddr 0 (.tmp 21)) Option.none), (0, 17)), ((.mk (Option.some 23) (.load 1 Bool.false (.tmp 22)) Option.none), (0, 17)), ((.mk (Option.some
  24) (.mv (.tmp 0)) Option.none), (0, 17)), ((.mk (Option.some 25) (.nilCheck (.tmp 24)) Option.none), (0, 17)), ((.mk (Option.some 26) (.fieldAddr 1 (.tmp 25)) Option.none), (0,
  17)), ((.mk (Option.some 27) (.load 1 Bool.false (.tmp 26)) Option.none), (0, 17)), ((.mk (Option.some 28) (.mv (.tmp 0)) Option.none), (0, 17)), ((.mk (Option.some 29)
  (.nilCheck (.tmp 28)) Option.none), (0, 17)), ((.mk (Option.some 30) (.fieldAddr 1 (.tmp 29)) Option.none), (0, 17)), ((.mk (Option.some 31) (.load 1 Bool.false (.tmp 30))
  Option.none), (0, 17)), ((.mk (Option.some 32) (.mv (.tmp 1)) Option.none), (0, 17)), ((.mk (Option.some 33) (.conv .i64 (.tmp 32)) Option.none), (0, 17)), ((.mk (Option.some 34)
  (.bin .add (.tmp 31) (.tmp 33)) Option.none), (0, 17)), ((.mk (Option.some 35) (.cutSlice 1 (.tmp 23) (Option.some (.tmp 27)) (Option.some (.tmp 34)) Option.none) Option.none),
  (0, 17)), ((.mk (Option.some 6) (.mv (.tmp 35)) Option.none), (0, 17))]) (.seq (.region [(.mk (Option.some 36) (.mv (.tmp 0)) Option.none), (.mk (Option.some 37) (.nilCheck (.tmp
  36)) Option.none), (.mk (Option.some 38) (.fieldAddr 1 (.tmp 37)) Option.none), (.mk (Option.some 39) (.load 1 Bool.false (.tmp 38)) Option.none), (.mk (Option.some 40) (.mv
  (.tmp 1)) Option.none), (.mk (Option.some 41) (.conv .i64 (.tmp 40)) Option.none), (.mk (Option.some 42) (.bin .add (.tmp 39) (.tmp 41)) Option.none), (.mk (Option.some 43)
  (.nilCheck (.tmp 36)) Option.none), (.mk (Option.some 44) (.fieldAddr 1 (.tmp 43)) Option.none), (.mk Option.none (.store 1 (.tmp 44) (.tmp 42)) Option.none)]) (.seq (.region
  [(.mk (Option.some 45) (.mv (.tmp 6)) Option.none), (.mk (Option.some 4) (.mv (.tmp 45)) Option.none), (.mk (Option.some 5) (.mv (.const (.bool Bool.true))) Option.none)])
  .ret))))) 46 [(.tmp 4), (.tmp 5)])
def a101 : AFn :=
  (.mk (.seq (.region [(.mk (Option.some 4) (.mv (.const (.bool Bool.false))) Option.none)]) (.seq (.region [(.mk (Option.some 5) (.mv (.tmp 0)) Option.none), (.mk (Option.some 6)
  (.mv (.tmp 1)) Option.none), (.mk (Option.some 7) (.call 118 [(.tmp 5), (.tmp 6)]) Option.none), (.mk (Option.some 4) (.mv (.tmp 7)) Option.none)]) .ret)) 8 [(.tmp 4)])
def a102 : AFn :=
  (.mk (.seq (.region [(.mk (Option.some 2) (.mv (.const (.string (ByteArray.mk #[])))) Option.none)]) (.seq (.seq (.region [(.mk (Option.some 3) (.mv (.tmp 0)) Option.none), (.mk
  (Option.some 4) (.bin .lss (.tmp 3) (.const (.int .i64 10))) Option.none)]) (.cond (.tmp 4) (.seq (.region [(.mk (Option.some 5) (.mv (.tmp 0)) Option.none), (.mk (Option.some 6)
  (.mv (.tmp 0)) Option.none), (.mk (Option.some 7) (.bin .add (.tmp 6) (.const (.int .i64 1))) Option.none), (.mk (Option.some 8) (.cutStr (.const (.string (ByteArray.mk #[48, 49,
  50, 51, 52, 53, 54, 55, 56, 57, 97, 98, 99, 100, 101, 102, 103, 104, 105, 106, 107, 108, 109, 110, 111, 112, 113, 114, 115, 116, 117, 118, 119, 120, 121, 122]))) (Option.some
  (.tmp 5)) (Option.some (.tmp 7))) Option.none), (.mk (Option.some 2) (.mv (.tmp 8)) Option.none)]) .ret) .skip)) (.seq (.region [(.mk (Option.some 9) (.mv (.tmp 0)) Option.none),
  (.mk (Option.some 10) (.bin .mul (.tmp 9) (.const (.int .i64 2))) Option.none), (.mk (Option.some 11) (.mv (.tmp 0)) Option.none), (.mk (Option.some 12) (.bin .mul (.tmp 11)
  (.const (.int .i64 2))) Option.none), (.mk (Option.some 13) (.bin .add (.tmp 12) (.const (.int .i64 2))) Option.none), (.mk (Option.some 14) (.cutStr (.const (.string
  (ByteArray.mk #[48, 48, 48, 49, 48, 50, 48, 51, 48, 52, 48, 53, 48, 54, 48, 55, 48, 56, 48, 57, 49, 48, 49, 49, 49, 50, 49, 51, 49, 52, 49, 53, 49, 54, 49, 55, 49, 56, 49, 57,
  50, 48, 50, 49, 50, 50, 50, 51, 50, 52, 50, 53, 50, 54, 50, 55, 50, 56, 50, 57, 51, 48, 51, 49, 51, 50, 51, 51, 51, 52, 51, 53, 51, 54, 51, 55, 51, 56, 51, 57, 52, 48, 52, 49,
  52, 50, 52, 51, 52, 52, 52, 53, 52, 54, 52, 55, 52, 56, 52, 57, 53, 48, 53, 49, 53, 50, 53, 51, 53, 52, 53, 53, 53, 54, 53, 55, 53, 56, 53, 57, 54, 48, 54, 49, 54, 50, 54, 51,
  54, 52, 54, 53, 54, 54, 54, 55, 54, 56, 54, 57, 55, 48, 55, 49, 55, 50, 55, 51, 55, 52, 55, 53, 55, 54, 55, 55, 55, 56, 55, 57, 56, 48, 56, 49, 56, 50, 56, 51, 56, 52, 56, 53,
  56, 54, 56, 55, 56, 56, 56, 57, 57, 48, 57, 49, 57, 50, 57, 51, 57, 52, 57, 53, 57, 54, 57, 55, 57, 56, 57, 57]))) (Option.some (.tmp 10)) (Option.some (.tmp 13))) Option.none),
  (.mk (Option.some 2) (.mv (.tmp 14)) Option.none)]) .ret))) 15 [(.tmp 2)])
def a103 : AFn :=
  (.mk (.seq (.region [(.mk (Option.some 2) (.mv (.const (.int .i64 0))) Option.none)]) (.seq (.region [(.mk (Option.some 4) (.mv (.tmp 0)) Option.none), (.mk (Option.some 5) (.call
  120 [(.tmp 4)]) Option.none), (.mk (Option.some 6) (.call 119 [(.tmp 5)]) Option.none), (.mk (Option.some 3) (.mv (.tmp 6)) Option.none)]) (.seq (.region [(.mk (Option.some 7)
  (.mv (.tmp 3)) Option.none), (.mk (Option.some 8) (.mv (.tmp 0)) Option.none), (.mk (Option.some 9) (.mv (.tmp 3)) Option.none), (.mk (Option.some 10) (.atArray 20 1 (.global 1)
  (.tmp 9)) Option.none), (.mk (Option.some 11) (.load 1 Bool.false (.tmp 10)) Option.none), (.mk (Option.some 12) (.bin .geq (.tmp 8) (.tmp 11)) Option.none), (.mk (Option.some
  13) (.call 121 [(.tmp 12)]) Option.none), (.mk (Option.some 14) (.bin .add (.tmp 7) (.tmp 13)) Option.none), (.mk (Option.some 2) (.mv (.tmp 14)) Option.none)]) .ret))) 15 [(.tmp
  2)])
def a104 : AFn :=
  (.mk (.seq (.region [(.mk (Option.some 17) (.mv (.tmp 0)) Option.none), (.mk (Option.some 18) (.len (.tmp 17)) Option.none), (.mk (Option.some 4) (.mv (.tmp 18)) Option.none)])
  (.seq (.block 0 (.loop (.seq (.seq (.region [(.mk (Option.some 19) (.mv (.tmp 4)) Option.none), (.mk (Option.some 20) (.bin .geq (.tmp 19) (.const (.int .i64 8))) Option.none)])
  (.cond (.tmp 20) .skip (.exit 0))) (.block 1 (.seq (.region [(.mk (Option.some 21) (.mv (.tmp 1)) Option.none), (.mk (Option.some 22) (.bin .rem (.tmp 21) (.const (.int .u64
  100000000))) Option.none), (.mk (Option.some 23) (.conv .u32 (.tmp 22)) Option.none), (.mk (Option.some 5) (.mv (.tmp 23)) Option.none)]) (.seq (.region [(.mk (Option.some 24)
  (.mv (.tmp 1)) Option.none), (.mk (Option.some 25) (.bin .quo (.tmp 24) (.const (.int .u64 100000000))) Option.none), (.mk (Option.some 1) (.mv (.tmp 25)) Option.none)]) (.seq
  (.region [(.mk (Option.some 26) (.mv (.tmp 5)) Option.none), (.mk (Option.some 27) (.bin .quo (.tmp 26) (.const (.int .u32 10000))) Option.none), (.mk (Option.some 28) (.mv (.tmp
  5)) Option.none), (.mk (Option.some 29) (.bin .rem (.tmp 28) (.const (.int .u32 10000))) Option.none), (.mk (Option.some 6) (.mv (.tmp 27)) Option.none), (.mk (Option.some 7)
  (.mv (.tmp 29)) Option.none)]) (.seq (.region [(.mk (Option.some 30) (.mv (.tmp 7)) Option.none), (.mk (Option.some 31) (.bin .quo (.tmp 30) (.const (.int .u32 100)))
  Option.none), (.mk (Option.some 32) (.bin .mul (.tmp 31) (.const (.int .u32 2))) Option.none), (.mk (Option.some 33) (.mv (.tmp 7)) Option.none), (.mk (Option.some 34) (.bin .rem
  (.tmp 33) (.const (.int .u32 100))) Option.none), (.mk (Option.some 35) (.bin .mul (.tmp 34) (.const (.int .u32 2))) Option.none), (.mk (Option.some 8) (.mv (.tmp 32))
  Option.none), (.mk (Option.some 9) (.mv (.tmp 35)) Option.none)]) (.seq (.region [(.mk (Option.some 36) (.mv (.tmp 6)) Option.none), (.mk (Option.some 37) (.bin .quo (.tmp 36)
  (.const (.int .u32 100))) Option.none), (.mk (Option.some 38) (.bin .mul (.tmp 37) (.const (.int .u32 2))) Option.none), (.mk (Option.some 39) (.mv (.tmp 6)) Option.none), (.mk
  (Option.some 40) (.bin .rem (.tmp 39) (.const (.int .u32 100))) Option.none), (.mk (Option.some 41) (.bin .mul (.tmp 40) (.const (.int .u32 2))) Option.none), (.mk (Option.some
  10) (.mv (.tmp 38)) Option.none), (.mk (Option.some 11) (.mv (.tmp 41)) Option.none)]) (.seq (.draws [((.mk (Option.some 42) (.mv (.tmp 0)) Option.none), (0, 12)), ((.mk
  (Option.some 43) (.mv (.tmp 4)) Option.none), (0, 12)), ((.mk (Option.some 44) (.bin .sub (.tmp 43) (.const (.int .i64 1))) Option.none), (0, 12)), ((.mk (Option.some 45) (.mv
  (.tmp 0)) Option.none), (0, 14)), ((.mk (Option.some 46) (.mv (.tmp 4)) Option.none), (0, 14)), ((.mk (Option.some 47) (.bin .sub (.tmp 46) (.const (.int .i64 2))) Option.none),
  (0, 14)), ((.mk (Option.some 48) (.mv (.tmp 9)) Option.none), (0, 12)), ((.mk (Option.some 49) (.bin .add (.tmp 48) (.const (.int .u32 1))) Option.none), (0, 12)), ((.mk
  (Option.some 50) (.byteAt (.const (.string (ByteArray.mk #[48, 48, 48, 49, 48, 50, 48, 51, 48, 52, 48, 53, 48, 54, 48, 55, 48, 56, 48, 57, 49, 48, 49, 49, 49, 50, 49, 51, 49, 52,
  49, 53, 49, 54, 49, 55, 49, 56, 49, 57, 50, 48, 50, 49, 50, 50, 50, 51, 50, 52, 50, 53, 50, 54, 50, 55, 50, 56, 50, 57, 51, 48, 51, 49, 51, 50, 51, 51, 51, 52, 51, 53, 51, 54,
  51, 55, 51, 56, 51, 57, 52, 48, 52, 49, 52, 50, 52, 51, 52, 52, 52, 53, 52, 54, 52, 55, 52, 56, 52, 57, 53, 48, 53, 49, 53, 50, 53, 51, 53, 52, 53, 53, 53, 54, 53, 55, 53, 56,
  53, 57, 54, 48, 54, 49, 54, 50, 54, 51, 54, 52, 54, 53, 54, 54, 54, 55, 54, 56, 54, 57, 55, 48, 55, 49, 55, 50, 55, 51, 55, 52, 55, 53, 55, 54, 55, 55, 55, 56, 55, 57, 56, 48,
  56, 49, 56, 50, 56, 51, 56, 52, 56, 53, 56, 54, 56, 55, 56, 56, 56, 57, 57, 48, 57, 49, 57, 50, 57, 51, 57, 52, 57, 53, 57, 54, 57, 55, 57, 56, 57, 57]))) (.tmp 49))
  Option.none), (0, 12)), ((.mk (Option.some 51) (.mv (.tmp 9)) Option.none), (0, 14)), ((.mk (Option.some 52) (.byteAt (.const (.string (ByteArray.mk #[48, 48, 48, 49, 48, 50, 48,
  51, 48, 52, 48, 53, 48, 54, 48, 55, 48, 56, 48, 57, 49, 48, 49, 49, 49, 50, 49, 51, 49, 52, 49, 53, 49, 54, 49, 55, 49, 56, 49, 57, 50, 48, 50, 49, 50, 50, 50, 51, 50, 52, 50,
  53, 50, 54, 50, 55, 50, 56, 50, 57, 51, 48, 51, 49, 51, 50, 51, 51, 51, 52, 51, 53, 51, 54, 51, 55, 51, 56, 51, 57, 52, 48, 52, 49, 52, 50, 52, 51, 52, 52, 52, 53, 52, 54, 52,
  55, 52, 56, 52, 57, 53, 48, 53, 49, 53, 50, 53, 51, 53, 52, 53, 53, 53, 54, 53, 55, 53, 56, 53, 57, 54, 48, 54, 49, 54, 50, 54, 51, 54, 52, 54, 53, 54, 54, 54, 55, 54, 56, 54,
  57, 55, 48, 55, 49, 55, 50, 55, 51, 55, 52, 55, 53, 55, 54, 55, 55, 55, 56, 55, 57, 56, 48, 56, 49, 56, 50, 56, 51, 56, 52, 56, 53, 56, 54, 56, 55, 56, 56, 56, 57, 57, 48, 57,
  49, 57, 50, 57, 51, 57, 52, 57, 53, 57, 54, 57, 55, 57, 56, 57, 57]))) (.tmp 51)) Option.none), (0, 14)), ((.mk (Option.some 53) (.atSlice 1 (.tmp 42) (.tmp 44)) Option.none),
  (0, 12)), ((.mk Option.none (.store 1 (.tmp 53) (.tmp 50)) Option.none), (0, 14)), ((.mk (Option.some 54) (.atSlice 1 (.tmp 45) (.tmp 47)) Option.none), (13, 14)), ((.mk
  Option.none (.store 1 (.tmp 54) (.tmp 52)) Option.none), (13, 15))]) (.seq (.draws [((.mk (Option.some 55) (.mv (.tmp 0)) Option.none), (0, 12)), ((.mk (Option.some 56) (.mv
  (.tmp 4)) Option.none), (0, 12)), ((.mk (Option.some 57) (.bin .sub (.tmp 56) (.const (.int .i64 3))) Option.none), (0, 12)), ((.mk (Option.some 58) (.mv (.tmp 0)) Option.none),
  (0, 14)), ((.mk (Option.some 59) (.mv (.tmp 4)) Option.none), (0, 14)), ((.mk (Option.some 60) (.bin .sub (.tmp 59) (.const (.int .i64 4))) Option.none), (0, 14)), ((.mk
  (Option.some 61) (.mv (.tmp 8)) Option.none), (0, 12)), ((.mk (Option.some 62) (.bin .add (.tmp 61) (.const (.int .u32 1))) Option.none), (0, 12)), ((.mk (Option.some 63)
  (.byteAt (.const (.string (ByteArray.mk #[48, 48, 48, 49, 48, 50, 48, 51, 48, 52, 48, 53, 48, 54, 48, 55, 48, 56, 48, 57, 49, 48, 49, 49, 49, 50, 49, 51, 49, 52, 49, 53, 49, 54,
  49, 55, 49, 56, 49, 57, 50, 48, 50, 49, 50, 50, 50, 51, 50, 52, 50, 53, 50, 54, 50, 55, 50, 56, 50, 57, 51, 48, 51, 49, 51, 50, 51, 51, 51, 52, 51, 53, 51, 54, 51, 55, 51, 56,
  51, 57, 52, 48, 52, 49, 52, 50, 52, 51, 52, 52, 52, 53, 52, 54, 52, 55, 52, 56, 52, 57, 53, 48, 53, 49, 53, 50, 53, 51, 53, 52, 53, 53, 53, 54, 53, 55, 53, 56, 53, 57, 54, 48,
  54, 49, 54, 50, 54, 51, 54, 52, 54, 53, 54, 54, 54, 55, 54, 56, 54, 57, 55, 48, 55, 49, 55, 50, 55, 51, 55, 52, 55, 53, 55, 54, 55, 55, 55, 56, 55, 57, 56, 48, 56, 49, 56, 50,
  56, 51, 56, 52, 56, 53, 56, 54, 56, 55, 56, 56, 56, 57, 57, 48, 57, 49, 57, 50, 57, 51, 57, 52, 57, 53, 57, 54, 57, 55, 57, 56, 57, 57]))) (.tmp 62)) Option.none), (0, 12)),
  ((.mk (Option.some 64) (.mv (.tmp 8)) Option.none), (0, 14)), ((.mk (Option.some 65) (.byteAt (.const (.string (ByteArray.mk #[48, 48, 48, 49, 48, 50, 48, 51, 48, 52, 48, 53, 48,
  54, 48, 55, 48, 56, 48, 57, 49, 48, 49, 49, 49, 50, 49, 51, 49, 52, 49, 53, 49, 54, 49, 55, 49, 56, 49, 57, 50, 48, 50, 49, 50, 50, 50, 51, 50, 52, 50, 53, 50, 54, 50, 55, 50,
  56, 50, 57, 51, 48, 51, 49, 51, 50, 51, 51, 51, 52, 51, 53, 51, 54, 51, 55, 51, 56, 51, 57, 52, 48, 52, 49, 52, 50, 52, 51, 52, 52, 52, 53, 52, 54, 52, 55, 52, 56, 52, 57, 53,
  48, 53, 49, 53, 50, 53, 51, 53, 52, 53, 53, 53, 54, 53, 55, 53, 56, 53, 57, 54, 48, 54, 49, 54, 50, 54, 51, 54, 52, 54, 53, 54, 54, 54, 55, 54, 56, 54, 57, 55, 48, 55, 49, 55,
  50, 55, 51, 55, 52, 55, 53, 55, 54, 55, 55, 55, 56, 55, 57, 56, 48, 56, 49, 56, 50, 56, 51, 56, 52, 56, 53, 56, 54, 56, 55, 56, 56, 56, 57, 57, 48, 57, 49, 57, 50, 57, 51, 57,
  52, 57, 53, 57, 54, 57, 55, 57, 56, 57, 57]))) (.tmp 64)) Option.none), (0, 14)), ((.mk (Option.some 66) (.atSlice 1 (.tmp 55) (.tmp 57)) Option.none), (0, 12)), ((.mk
  Option.none (.store 1 (.tmp 66) (.tmp 63)) Option.none), (0, 14)), ((.mk (Option.some 67) (.atSlice 1 (.tmp 58) (.tmp 60)) Option.none), (13, 14)), ((.mk Option.none (.store 1
  (.tmp 67) (.tmp 65)) Option.none), (13, 15))]) (.seq (.draws [((.mk (Option.some 68) (.mv (.tmp 0)) Option.none), (0, 12)), ((.mk (Option.some 69) (.mv (.tmp 4)) Option.none),
  (0, 12)), ((.mk (Option.some 70) (.bin .sub (.tmp 69) (.const (.int .i64 5))) Option.none), (0, 12)), ((.mk (Option.some 71) (.mv (.tmp 0)) Option.none), (0, 14)), ((.mk
  (Option.some 72) (.mv (.tmp 4)) Option.none), (0, 14)), ((.mk (Option.some 73) (.bin .sub (.tmp 72) (.const (.int .i64 6))) Option.none), (0, 14)), ((.mk (Option.some 74) (.mv
  (.tmp 11)) Option.none), (0, 12)), ((.mk (Option.some 75) (.bin .add (.tmp 74) (.const (.int .u32 1))) Option.none), (0, 12)), ((.mk (Option.some 76) (.byteAt (.const (.string
  (ByteArray.mk #[48, 48, 48, 49, 48, 50, 48, 51, 48, 52, 48, 53, 48, 54, 48, 55, 48, 56, 48, 57, 49, 48, 49, 49, 49, 50, 49, 51, 49, 52, 49, 53, 49, 54, 49, 55, 49, 56, 49, 57,
  50, 48, 50, 49, 50, 50, 50, 51, 50, 52, 50, 53, 50, 54, 50, 55, 50, 56, 50, 57, 51, 48, 51, 49, 51, 50, 51, 51, 51, 52, 51, 53, 51, 54, 51, 55, 51, 56, 51, 57, 52, 48, 52, 49,
  52, 50, 52, 51, 52, 52, 52, 53, 52, 54, 52, 55, 52, 56, 52, 57, 53, 48, 53, 49, 53, 50, 53, 51, 53, 52, 53, 53, 53, 54, 53, 55, 53, 56, 53, 57, 54, 48, 54, 49, 54, 50, 54, 51,
  54, 52, 54, 53, 54, 54, 54, 55, 54, 56, 54, 57, 55, 48, 55, 49, 55, 50, 55, 51, 55, 52, 55, 53, 55, 54, 55, 55, 55, 56, 55, 57, 56, 48, 56, 49, 56, 50, 56, 51, 56, 52, 56, 53,
  56, 54, 56, 55, 56, 56, 56, 57, 57, 48, 57, 49, 57, 50, 57, 51, 57, 52, 57, 53, 57, 54, 57, 55, 57, 56, 57, 57]))) (.tmp 75)) Option.none), (0, 12)), ((.mk (Option.some 77) (.mv
  (.tmp 11)) Option.none), (0, 14)), ((.mk (Option.some 78) (.byteAt (.const (.string (ByteArray.mk #[48, 48, 48, 49, 48, 50, 48, 51, 48, 52, 48, 53, 48, 54, 48, 55, 48, 56, 48,
  57, 49, 48, 49, 49, 49, 50, 49, 51, 49, 52, 49, 53, 49, 54, 49, 55, 49, 56, 49, 57, 50, 48, 50, 49, 50, 50, 50, 51, 50, 52, 50, 53, 50, 54, 50, 55, 50, 56, 50, 57, 51, 48, 51,
  49, 51, 50, 51, 51, 51, 52, 51, 53, 51, 54, 51, 55, 51, 56, 51, 57, 52, 48, 52, 49, 52, 50, 52, 51, 52, 52, 52, 53, 52, 54, 52, 55, 52, 56, 52, 57, 53, 48, 53, 49, 53, 50, 53,
  51, 53, 52, 53, 53, 53, 54, 53, 55, 53, 56, 53, 57, 54, 48, 54, 49, 54, 50, 54, 51, 54, 52, 54, 53, 54, 54, 54, 55, 54, 56, 54, 57, 55, 48, 55, 49, 55, 50, 55, 51, 55, 52, 55,
  53, 55, 54, 55, 55, 55, 56, 55, 57, 56, 48, 56, 49, 56, 50, 56, 51, 56, 52, 56, 53, 56, 54, 56, 55, 56, 56, 56, 57, 57, 48, 57, 49, 57, 50, 57, 51, 57, 52, 57, 53, 57, 54, 57,
  55, 57, 56, 57, 57]))) (.tmp 77)) Option.none), (0, 14)), ((.mk (Option.some 79) (.atSlice 1 (.tmp 68) (.tmp 70)) Option.none), (0, 12)), ((.mk Option.none (.store 1 (.tmp 79)
  (.tmp 76)) Option.none), (0, 14)), ((.mk (Option.some 80) (.atSlice 1 (.tmp 71) (.tmp 73)) Option.none), (13, 14)), ((.mk Option.none (.store 1 (.tmp 80) (.tmp 78)) Option.none),
  (13, 15))]) (.seq (.draws [((.mk (Option.some 81) (.mv (.tmp 0)) Option.none), (0, 12)), ((.mk (Option.some 82) (.mv (.tmp 4)) Option.none), (0, 12)), ((.mk (Option.some 83)
  (.bin .sub (.tmp 82) (.const (.int .i64 7))) Option.none), (0, 12)), ((.mk (Option.some 84) (.mv (.tmp 0)) Option.none), (0, 14)), ((.mk (Option.some 85) (.mv (.tmp 4))
  Option.none), (0, 14)), ((.mk (Option.some 86) (.bin .sub (.tmp 85) (.const (.int .i64 8))) Option.none), (0, 14)), ((.mk (Option.some 87) (.mv (.tmp 10)) Option.none), (0, 12)),
  ((.mk (Option.some 88) (.bin .add (.tmp 87) (.const (.int .u32 1))) Option.none), (0, 12)), ((.mk (Option.some 89) (.byteAt (.const (.string (ByteArray.mk #[48, 48, 48, 49, 48,
  50, 48, 51, 48, 52, 48, 53, 48, 54, 48, 55, 48, 56, 48, 57, 49, 48, 49, 49, 49, 50, 49, 51, 49, 52, 49, 53, 49, 54, 49, 55, 49, 56, 49, 57, 50, 48, 50, 49, 50, 50, 50, 51, 50,
  52, 50, 53, 50, 54, 50, 55, 50, 56, 50, 57, 51, 48, 51, 49, 51, 50, 51, 51, 51, 52, 51, 53, 51, 54, 51, 55, 51, 56, 51, 57, 52, 48, 52, 49, 52, 50, 52, 51, 52, 52, 52, 53, 52,
  54, 52, 55, 52, 56, 52, 57, 53, 48, 53, 49, 53, 50, 53, 51, 53, 52, 53, 53, 53, 54, 53, 55, 53, 56, 53, 57, 54, 48, 54, 49, 54, 50, 54, 51, 54, 52, 54, 53, 54, 54, 54, 55, 54,
  56, 54, 57, 55, 48, 55, 49, 55, 50, 55, 51, 55, 52, 55, 53, 55, 54, 55, 55, 55, 56, 55, 57, 56, 48, 56, 49, 56, 50, 56, 51, 56, 52, 56, 53, 56, 54, 56, 55, 56, 56, 56, 57, 57,
  48, 57, 49, 57, 50, 57, 51, 57, 52, 57, 53, 57, 54, 57, 55, 57, 56, 57, 57]))) (.tmp 88)) Option.none), (0, 12)), ((.mk (Option.some 90) (.mv (.tmp 10)) Option.none), (0, 14)),
  ((.mk (Option.some 91) (.byteAt (.const (.string (ByteArray.mk #[48, 48, 48, 49, 48, 50, 48, 51, 48, 52, 48, 53, 48, 54, 48, 55, 48, 56, 48, 57, 49, 48, 49, 49, 49, 50, 49, 51,
  49, 52, 49, 53, 49, 54, 49, 55, 49, 56, 49, 57, 50, 48, 50, 49, 50, 50, 50, 51, 50, 52, 50, 53, 50, 54, 50, 55, 50, 56, 50, 57, 51, 48, 51, 49, 51, 50, 51, 51, 51, 52, 51, 53,
  51, 54, 51, 55, 51, 56, 51, 57, 52, 48, 52, 49, 52, 50, 52, 51, 52, 52, 52, 53, 52, 54, 52, 55, 52, 56, 52, 57, 53, 48, 53, 49, 53, 50, 53, 51, 53, 52, 53, 53, 53, 54, 53, 55,
  53, 56, 53, 57, 54, 48, 54, 49, 54, 50, 54, 51, 54, 52, 54, 53, 54, 54, 54, 55, 54, 56, 54, 57, 55, 48, 55, 49, 55, 50, 55, 51, 55, 52, 55, 53, 55, 54, 55, 55, 55, 56, 55, 57,
  56, 48, 56, 49, 56, 50, 56, 51, 56, 52, 56, 53, 56, 54, 56, 55, 56, 56, 56, 57, 57, 48, 57, 49, 57, 50, 57, 51, 57, 52, 57, 53, 57, 54, 57, 55, 57, 56, 57, 57]))) (.tmp 90))
  Option.none), (0, 14)), ((.mk (Option.some 92) (.atSlice 1 (.tmp 81) (.tmp 83)) Option.none), (0, 12)), ((.mk Option.none (.store 1 (.tmp 92) (.tmp 89)) Option.none), (0, 14)),
  ((.mk (Option.some 93) (.atSlice 1 (.tmp 84) (.tmp 86)) Option.none), (13, 14)), ((.mk Option.none (.store 1 (.tmp 93) (.tmp 91)) Option.none), (13, 15))]) (.region [(.mk
  (Option.some 94) (.mv (.tmp 4)) Option.none), (.mk (Option.some 95) (.bin .sub (.tmp 94) (.const (.int .i64 8))) Option.none), (.mk (Option.some 4) (.mv (.tmp 95))
  Option.none)])))))))))))))) (.seq (.region [(.mk (Option.some 96) (.mv (.tmp 1)) Option.none), (.mk (Option.some 97) (.conv .u32 (.tmp 96)) Option.none), (.mk (Option.some 12)
  (.mv (.tmp 97)) Option.none)]) (.seq (.seq (.region [(.mk (Option.some 98) (.mv (.tmp 4)) Option.none), (.mk (Option.some 99) (.bin .geq (.tmp 98) (.const (.int .i64 4)))
  Option.none)]) (.cond (.tmp 99) (.seq (.region [(.mk (Option.some 100) (.mv (.tmp 12)) Option.none), (.mk (Option.some 101) (.bin .rem (.tmp 100) (.const (.int .u32 10000)))
  Option.none), (.mk (Option.some 13) (.mv (.tmp 101)) Option.none)]) (.seq (.region [(.mk (Option.some 102) (.mv (.tmp 12)) Option.none), (.mk (Option.some 103) (.bin .quo (.tmp
  102) (.const (.int .u32 10000))) Option.none), (.mk (Option.some 12) (.mv (.tmp 103)) Option.none)]) (.seq (.region [(.mk (Option.some 104) (.mv (.tmp 13)) Option.none), (.mk
  (Option.some 105) (.bin .quo (.tmp 104) (.const (.int .u32 100))) Option.none), (.mk (Option.some 106) (.bin .mul (.tmp 105) (.const (.int .u32 2))) Option.none), (.mk
  (Option.some 107) (.mv (.tmp 13)) Option.none), (.mk (Option.some 108) (.bin .rem (.tmp 107) (.const (.int .u32 100))) Option.none), (.mk (Option.some 109) (.bin .mul (.tmp 108)
  (.const (.int .u32 2))) Option.none), (.mk (Option.some 14) (.mv (.tmp 106)) Option.none), (.mk (Option.some 15) (.mv (.tmp 109)) Option.none)]) (.seq (.draws [((.mk (Option.some
  110) (.mv (.tmp 0)) Option.none), (0, 12)), ((.mk (Option.some 111) (.mv (.tmp 4)) Option.none), (0, 12)), ((.mk (Option.some 112) (.bin .sub (.tmp 111) (.const (.int .i64 1)))
  Option.none), (0, 12)), ((.mk (Option.some 113) (.mv (.tmp 0)) Option.none), (0, 14)), ((.mk (Option.some 114) (.mv (.tmp 4)) Option.none), (0, 14)), ((.mk (Option.some 115)
  (.bin .sub (.tmp 114) (.const (.int .i64 2))) Option.none), (0, 14)), ((.mk (Option.some 116) (.mv (.tmp 15)) Option.none), (0, 12)), ((.mk (Option.some 117) (.bin .add (.tmp
  116) (.const (.int .u32 1))) Option.none), (0, 12)), ((.mk (Option.some 118) (.byteAt (.const (.string (ByteArray.mk #[48, 48, 48, 49, 48, 50, 48, 51, 48, 52, 48, 53, 48, 54, 48,
  55, 48, 56, 48, 57, 49, 48, 49, 49, 49, 50, 49, 51, 49, 52, 49, 53, 49, 54, 49, 55, 49, 56, 49, 57, 50, 48, 50, 49, 50, 50, 50, 51, 50, 52, 50, 53, 50, 54, 50, 55, 50, 56, 50,
  57, 51, 48, 51, 49, 51, 50, 51, 51, 51, 52, 51, 53, 51, 54, 51, 55, 51, 56, 51, 57, 52, 48, 52, 49, 52, 50, 52, 51, 52, 52, 52, 53, 52, 54, 52, 55, 52, 56, 52, 57, 53, 48, 53,
  49, 53, 50, 53, 51, 53, 52, 53, 53, 53, 54, 53, 55, 53, 56, 53, 57, 54, 48, 54, 49, 54, 50, 54, 51, 54, 52, 54, 53, 54, 54, 54, 55, 54, 56, 54, 57, 55, 48, 55, 49, 55, 50, 55,
  51, 55, 52, 55, 53, 55, 54, 55, 55, 55, 56, 55, 57, 56, 48, 56, 49, 56, 50, 56, 51, 56, 52, 56, 53, 56, 54, 56, 55, 56, 56, 56, 57, 57, 48, 57, 49, 57, 50, 57, 51, 57, 52, 57,
  53, 57, 54, 57, 55, 57, 56, 57, 57]))) (.tmp 117)) Option.none), (0, 12)), ((.mk (Option.some 119) (.mv (.tmp 15)) Option.none), (0, 14)), ((.mk (Option.some 120) (.byteAt
  (.const (.string (ByteArray.mk #[48, 48, 48, 49, 48, 50, 48, 51, 48, 52, 48, 53, 48, 54, 48, 55, 48, 56, 48, 57, 49, 48, 49, 49, 49, 50, 49, 51, 49, 52, 49, 53, 49, 54, 49, 55,
  49, 56, 49, 57, 50, 48, 50, 49, 50, 50, 50, 51, 50, 52, 50, 53, 50, 54, 50, 55, 50, 56, 50, 57, 51, 48, 51, 49, 51, 50, 51, 51, 51, 52, 51, 53, 51, 54, 51, 55, 51, 56, 51, 57,
  52, 48, 52, 49, 52, 50, 52, 51, 52, 52, 52, 53, 52, 54, 52, 55, 52, 56, 52, 57, 53, 48, 53, 49, 53, 50, 53, 51, 53, 52, 53, 53, 53, 54, 53, 55, 53, 56, 53, 57, 54, 48, 54, 49,
  54, 50, 54, 51, 54, 52, 54, 53, 54, 54, 54, 55, 54, 56, 54, 57, 55, 48, 55, 49, 55, 50, 55, 51, 55, 52, 55, 53, 55, 54, 55, 55, 55, 56, 55, 57, 56, 48, 56, 49, 56, 50, 56, 51,
  56, 52, 56, 53, 56, 54, 56, 55, 56, 56, 56, 57, 57, 48, 57, 49, 57, 50, 57, 51, 57, 52, 57, 53, 57, 54, 57, 55, 57, 56, 57, 57]))) (.tmp 119)) Option.none), (0, 14)), ((.mk
  (Option.some 121) (.atSlice 1 (.tmp 110) (.tmp 112)) Option.none), (0, 12)), ((.mk Option.none (.store 1 (.tmp 121) (.tmp 118)) Option.none), (0, 14)), ((.mk (Option.some 122)
  (.atSlice 1 (.tmp 113) (.tmp 115)) Option.none), (13, 14)), ((.mk Option.none (.store 1 (.tmp 122) (.tmp 120)) Option.none), (13, 15))]) (.seq (.draws [((.mk (Option.some 123)
  (.mv (.tmp 0)) Option.none), (0, 12)), ((.mk (Option.some 124) (.mv (.tmp 4)) Option.none), (0, 12)), ((.mk (Option.some 125) (.bin .sub (.tmp 124) (.const (.int .i64 3)))
  Option.none), (0, 12)), ((.mk (Option.some 126) (.mv (.tmp 0)) Option.none), (0, 14)), ((.mk (Option.some 127) (.mv (.tmp 4)) Option.none), (0, 14)), ((.mk (Option.some 128)
  (.bin .sub (.tmp 127) (.const (.int .i64 4))) Option.none), (0, 14)), ((.mk (Option.some 129) (.mv (.tmp 14)) Option.none), (0, 12)), ((.mk (Option.some 130) (.bin .add (.tmp
  129) (.const (.int .u32 1))) Option.none), (0, 12)), ((.mk (Option.some 131) (.byteAt (.const (.string (ByteArray.mk #[48, 48, 48, 49, 48, 50, 48, 51, 48, 52, 48, 53, 48, 54, 48,
  55, 48, 56, 48, 57, 49, 48, 49, 49, 49, 50, 49, 51, 49, 52, 49, 53, 49, 54, 49, 55, 49, 56, 49, 57, 50, 48, 50, 49, 50, 50, 50, 51, 50, 52, 50, 53, 50, 54, 50, 55, 50, 56, 50,
  57, 51, 48, 51, 49, 51, 50, 51, 51, 51, 52, 51, 53, 51, 54, 51, 55, 51, 56, 51, 57, 52, 48, 52, 49, 52, 50, 52, 51, 52, 52, 52, 53, 52, 54, 52, 55, 52, 56, 52, 57, 53, 48, 53,
  49, 53, 50, 53, 51, 53, 52, 53, 53, 53, 54, 53, 55, 53, 56, 53, 57, 54, 48, 54, 49, 54, 50, 54, 51, 54, 52, 54, 53, 54, 54, 54, 55, 54, 56, 54, 57, 55, 48, 55, 49, 55, 50, 55,
  51, 55, 52, 55, 53, 55, 54, 55, 55, 55, 56, 55, 57, 56, 48, 56, 49, 56, 50, 56, 51, 56, 52, 56, 53, 56, 54, 56, 55, 56, 56, 56, 57, 57, 48, 57, 49, 57, 50, 57, 51, 57, 52, 57,
  53, 57, 54, 57, 55, 57, 56, 57, 57]))) (.tmp 130)) Option.none), (0, 12)), ((.mk (Option.some 132) (.mv (.tmp 14)) Option.none), (0, 14)), ((.mk (Option.some 133) (.byteAt
  (.const (.string (ByteArray.mk #[48, 48, 48, 49, 48, 50, 48, 51, 48, 52, 48, 53, 48, 54, 48, 55, 48, 56, 48, 57, 49, 48, 49, 49, 49, 50, 49, 51, 49, 52, 49, 53, 49, 54, 49, 55,
  49, 56, 49, 57, 50, 48, 50, 49, 50, 50, 50, 51, 50, 52, 50, 53, 50, 54, 50, 55, 50, 56, 50, 57, 51, 48, 51, 49, 51, 50, 51, 51, 51, 52, 51, 53, 51, 54, 51, 55, 51, 56, 51, 57,
  52, 48, 52, 49, 52, 50, 52, 51, 52, 52, 52, 53, 52, 54, 52, 55, 52, 56, 52, 57, 53, 48, 53, 49, 53, 50, 53, 51, 53, 52, 53, 53, 53, 54, 53, 55, 53, 56, 53, 57, 54, 48, 54, 49,
  54, 50, 54, 51, 54, 52, 54, 53, 54, 54, 54, 55, 54, 56, 54, 57, 55, 48, 55, 49, 55, 50, 55, 51, 55, 52, 55, 53, 55, 54, 55, 55, 55, 56, 55, 57, 56, 48, 56, 49, 56, 50, 56, 51,
  56, 52, 56, 53, 56, 54, 56, 55, 56, 56, 56, 57, 57, 48, 57, 49, 57, 50, 57, 51, 57, 52, 57, 53, 57, 54, 57, 55, 57, 56, 57, 57]))) (.tmp 132)) Option.none), (0, 14)), ((.mk
  (Option.some 134) (.atSlice 1 (.tmp 123) (.tmp 125)) Option.none), (0, 12)), ((.mk Option.none (.store 1 (.tmp 134) (.tmp 131)) Option.none), (0, 14)), ((.mk (Option.some 135)
  (.atSlice 1 (.tmp 126) (.tmp 128)) Option.none), (13, 14)), ((.mk Option.none (.store 1 (.tmp 135) (.tmp 133)) Option.none), (13, 15))]) (.region [(.mk (Option.some 136) (.mv
  (.tmp 4)) Option.none), (.mk (Option.some 137) (.bin .sub (.tmp 136) (.const (.int .i64 4))) Option.none), (.mk (Option.some 4) (.mv (.tmp 137)) Option.none)])))))) .skip)) (.seq
  (.seq (.region [(.mk (Option.some 138) (.mv (.tmp 4)) Option.none), (.mk (Option.some 139) (.bin .geq (.tmp 138) (.const (.int .i64 2))) Option.none)]) (.cond (.tmp 139) (.seq
  (.region [(.mk (Option.some 140) (.mv (.tmp 12)) Option.none), (.mk (Option.some 141) (.bin .rem (.tmp 140) (.const (.int .u32 100))) Option.none), (.mk (Option.some 142) (.bin
  .mul (.tmp 141) (.const (.int .u32 2))) Option.none), (.mk (Option.some 16) (.mv (.tmp 142)) Option.none)]) (.seq (.region [(.mk (Option.some 143) (.mv (.tmp 12)) Option.none),
  (.mk (Option.some 144) (.bin .quo (.tmp 143) (.const (.int .u32 100))) Option.none), (.mk (Option.some 12) (.mv (.tmp 144)) Option.none)]) (.seq (.draws [((.mk (Option.some 145)
  (.mv (.tmp 0)) Option.none), (0, 12)), ((.mk (Option.some 146) (.mv (.tmp 4)) Option.none), (0, 12)), ((.mk (Option.some 147) (.bin .sub (.tmp 146) (.const (.int .i64 1)))
  Option.none), (0, 12)), ((.mk (Option.some 148) (.mv (.tmp 0)) Option.none), (0, 14)), ((.mk (Option.some 149) (.mv (.tmp 4)) Option.none), (0, 14)), ((.mk (Option.some 150)
  (.bin .sub (.tmp 149) (.const (.int .i64 2))) Option.none), (0, 14)), ((.mk (Option.some 151) (.mv (.tmp 16)) Option.none), (0, 12)), ((.mk (Option.some 152) (.bin .add (.tmp
  151) (.const (.int .u32 1))) Option.none), (0, 12)), ((.mk (Option.some 153) (.byteAt (.const (.string (ByteArray.mk #[48, 48, 48, 49, 48, 50, 48, 51, 48, 52, 48, 53, 48, 54, 48,
  55, 48, 56, 48, 57, 49, 48, 49, 49, 49, 50, 49, 51, 49, 52, 49, 53, 49, 54, 49, 55, 49, 56, 49, 57, 50, 48, 50, 49, 50, 50, 50, 51, 50, 52, 50, 53, 50, 54, 50, 55, 50, 56, 50,
  57, 51, 48, 51, 49, 51, 50, 51, 51, 51, 52, 51, 53, 51, 54, 51, 55, 51, 56, 51, 57, 52, 48, 52, 49, 52, 50, 52, 51, 52, 52, 52, 53, 52, 54, 52, 55, 52, 56, 52, 57, 53, 48, 53,
  49, 53, 50, 53, 51, 53, 52, 53, 53, 53, 54, 53, 55, 53, 56, 53, 57, 54, 48, 54, 49, 54, 50, 54, 51, 54, 52, 54, 53, 54, 54, 54, 55, 54, 56, 54, 57, 55, 48, 55, 49, 55, 50, 55,
  51, 55, 52, 55, 53, 55, 54, 55, 55, 55, 56, 55, 57, 56, 48, 56, 49, 56, 50, 56, 51, 56, 52, 56, 53, 56, 54, 56, 55, 56, 56, 56, 57, 57, 48, 57, 49, 57, 50, 57, 51, 57, 52, 57,
  53, 57, 54, 57, 55, 57, 56, 57, 57]))) (.tmp 152)) Option.none), (0, 12)), ((.mk (Option.some 154) (.mv (.tmp 16)) Option.none), (0, 14)), ((.mk (Option.some 155) (.byteAt
  (.const (.string (ByteArray.mk #[48, 48, 48, 49, 48, 50, 48, 51, 48, 52, 48, 53, 48, 54, 48, 55, 48, 56, 48, 57, 49, 48, 49, 49, 49, 50, 49, 51, 49, 52, 49, 53, 49, 54, 49, 55,
  49, 56, 49, 57, 50, 48, 50, 49, 50, 50, 50, 51, 50, 52, 50, 53, 50, 54, 50, 55, 50, 56, 50, 57, 51, 48, 51, 49, 51, 50, 51, 51, 51, 52, 51, 53, 51, 54, 51, 55, 51, 56, 51, 57,
  52, 48, 52, 49, 52, 50, 52, 51, 52, 52, 52, 53, 52, 54, 52, 55, 52, 56, 52, 57, 53, 48, 53, 49, 53, 50, 53, 51, 53, 52, 53, 53, 53, 54, 53, 55, 53, 56, 53, 57, 54, 48, 54, 49,
  54, 50, 54, 51, 54, 52, 54, 53, 54, 54, 54, 55, 54, 56, 54, 57, 55, 48, 55, 49, 55, 50, 55, 51, 55, 52, 55, 53, 55, 54, 55, 55, 55, 56, 55, 57, 56, 48, 56, 49, 56, 50, 56, 51,
  56, 52, 56, 53, 56, 54, 56, 55, 56, 56, 56, 57, 57, 48, 57, 49, 57, 50, 57, 51, 57, 52, 57, 53, 57, 54, 57, 55, 57, 56, 57, 57]))) (.tmp 154)) Option.none), (0, 14)), ((.mk
  (Option.some 156) (.atSlice 1 (.tmp 145) (.tmp 147)) Option.none), (0, 12)), ((.mk Option.none (.store 1 (.tmp 156) (.tmp 153)) Option.none), (0, 14)), ((.mk (Option.some 157)
  (.atSlice 1 (.tmp 148) (.tmp 150)) Option.none), (13, 14)), ((.mk Option.none (.store 1 (.tmp 157) (.tmp 155)) Option.none), (13, 15))]) (.region [(.mk (Option.some 158) (.mv
  (.tmp 4)) Option.none), (.mk (Option.some 159) (.bin .sub (.tmp 158) (.const (.int .i64 2))) Option.none), (.mk (Option.some 4) (.mv (.tmp 159)) Option.none)])))) .skip)) (.seq
  (.region [(.mk (Option.some 160) (.mv (.tmp 4)) Option.none), (.mk (Option.some 161) (.bin .gtr (.tmp 160) (.const (.int .i64 0))) Option.none)]) (.cond (.tmp 161) (.region [(.mk
  (Option.some 162) (.mv (.tmp 0)) Option.none), (.mk (Option.some 163) (.mv (.tmp 12)) Option.none), (.mk (Option.some 164) (.bin .add (.const (.int .u32 48)) (.tmp 163))
  Option.none), (.mk (Option.some 165) (.conv .u8 (.tmp 164)) Option.none), (.mk (Option.some 166) (.atSlice 1 (.tmp 162) (.const (.int .i64 0))) Option.none), (.mk Option.none
  (.store 1 (.tmp 166) (.tmp 165)) Option.none)]) .skip))))))) 167 [])
def a105 : AFn :=
  (.mk (.seq (.region [(.mk (Option.some 10) (.mv (.const (.slice Option.none 0 0))) Option.none), (.mk (Option.some 11) (.mv (.const (.string (ByteArray.mk #[])))) Option.none)])
  (.seq (.seq (.region [(.mk (Option.some 19) (.mv (.tmp 2)) Option.none), (.mk (Option.some 20) (.bin .lss (.tmp 19) (.const (.int .i64 2))) Option.none), (.mk (Option.some 21)
  (.mv (.tmp 20)) Option.none), (.mk (Option.some 22) (.mv (.tmp 2)) (Option.some (21, Bool.false))), (.mk (Option.some 23) (.bin .eql (.tmp 22) (.const (.int .i64 10)))
  (Option.some (21, Bool.false))), (.mk (Option.some 24) (.pick (.tmp 21) (.const (.bool Bool.true)) (.tmp 23)) Option.none), (.mk (Option.some 25) (.mv (.tmp 24)) Option.none),
  (.mk (Option.some 26) (.mv (.tmp 2)) (Option.some (25, Bool.false))), (.mk (Option.some 27) (.bin .gtr (.tmp 26) (.const (.int .i64 36))) (Option.some (25, Bool.false))), (.mk
  (Option.some 28) (.pick (.tmp 25) (.const (.bool Bool.true)) (.tmp 27)) Option.none)]) (.cond (.tmp 28) (.region [(.mk (Option.some 29) (.mkIface 9 (.const (.string (ByteArray.mk
  #[115, 116, 114, 99, 111, 110, 118, 58, 32, 105, 108, 108, 101, 103, 97, 108, 32, 65, 112, 112, 101, 110, 100, 73, 110, 116, 47, 70, 111, 114, 109, 97, 116, 73, 110, 116, 32, 98,
  97, 115, 101])))) Option.none), (.mk Option.none (.extract (.const (.bool Bool.false)) 0) Option.none)]) .skip)) (.seq (.region [(.mk (Option.some 12) (.alloc [(.int .u8 0),
  (.int .u8 0), (.int .u8 0), (.int .u8 0), (.int .u8 0), (.int .u8 0), (.int .u8 0), (.int .u8 0), (.int .u8 0), (.int .u8 0), (.int .u8 0), (.int .u8 0), (.int .u8 0), (.int .u8
  0), (.int .u8 0), (.int .u8 0), (.int .u8 0), (.int .u8 0), (.int .u8 0), (.int .u8 0), (.int .u8 0), (.int .u8 0), (.int .u8 0), (.int .u8 0), (.int .u8 0), (.int .u8 0), (.int
  .u8 0), (.int .u8 0), (.int .u8 0), (.int .u8 0), (.int .u8 0), (.int .u8 0), (.int .u8 0), (.int .u8 0), (.int .u8 0), (.int .u8 0), (.int .u8 0), (.int .u8 0), (.int .u8 0),
  (.int .u8 0), (.int .u8 0), (.int .u8 0), (.int .u8 0), (.int .u8 0), (.int .u8 0), (.int .u8 0), (.int .u8 0), (.int .u8 0), (.int .u8 0), (.int .u8 0), (.int .u8 0), (.int .u8
  0), (.int .u8 0), (.int .u8 0), (.int .u8 0), (.int .u8 0), (.int .u8 0), (.int .u8 0), (.int .u8 0), (.int .u8 0), (.int .u8 0), (.int .u8 0), (.int .u8 0), (.int .u8 0), (.int
  .u8 0)]) Option.none)]) (.seq (.region [(.mk (Option.some 13) (.mv (.const (.int .i64 65))) Option.none)]) (.seq (.seq (.region [(.mk (Option.some 30) (.mv (.tmp 3))
  Option.none)]) (.cond (.tmp 30) (.region [(.mk (Option.some 31) (.mv (.tmp 1)) Option.none), (.mk (Option.some 32) (.un .neg (.tmp 31)) Option.none), (.mk (Option.some 1) (.mv
  (.tmp 32)) Option.none)]) .skip)) (.seq (.seq (.region [(.mk (Option.some 33) (.mv (.tmp 2)) Option.none), (.mk (Option.some 34) (.call 122 [(.tmp 33)]) Option.none)]) (.cond
  (.tmp 34) (.seq (.region [(.mk (Option.some 35) (.mv (.tmp 2)) Option.none), (.mk (Option.some 36) (.conv .u64 (.tmp 35)) Option.none), (.mk (Option.some 37) (.call 123 [(.tmp
  36)]) Option.none), (.mk (Option.some 38) (.conv .u64 (.tmp 37)) Option.none), (.mk (Option.some 14) (.mv (.tmp 38)) Option.none)]) (.seq (.region [(.mk (Option.some 39) (.mv
  (.tmp 2)) Option.none), (.mk (Option.some 40) (.conv .u64 (.tmp 39)) Option.none), (.mk (Option.some 15) (.mv (.tmp 40)) Option.none)]) (.seq (.region [(.mk (Option.some 41) (.mv
  (.tmp 2)) Option.none), (.mk (Option.some 42) (.conv .u64 (.tmp 41)) Option.none), (.mk (Option.some 43) (.bin .sub (.tmp 42) (.const (.int .u64 1))) Option.none), (.mk
  (Option.some 16) (.mv (.tmp 43)) Option.none)]) (.seq (.block 0 (.loop (.seq (.seq (.region [(.mk (Option.some 44) (.mv (.tmp 1)) Option.none), (.mk (Option.some 45) (.mv (.tmp
  15)) Option.none), (.mk (Option.some 46) (.bin .geq (.tmp 44) (.tmp 45)) Option.none)]) (.cond (.tmp 46) .skip (.exit 0))) (.block 1 (.seq (.region [(.mk (Option.some 47) (.mv
  (.tmp 13)) Option.none), (.mk (Option.some 48) (.bin .sub (.tmp 47) (.const (.int .i64 1))) Option.none), (.mk (Option.some 13) (.mv (.tmp 48)) Option.none)]) (.seq (.region
  [(.mk (Option.some 49) (.mv (.tmp 13)) Option.none), (.mk (Option.some 50) (.mv (.tmp 1)) Option.none), (.mk (Option.some 51) (.mv (.tmp 16)) Option.none), (.mk (Option.some 52)
  (.bin .and (.tmp 50) (.tmp 51)) Option.none), (.mk (Option.some 53) (.byteAt (.const (.string (ByteArray.mk #[48, 49, 50, 51, 52, 53, 54, 55, 56, 57, 97, 98, 99, 100, 101, 102,
  103, 104, 105, 106, 107, 108, 109, 110, 111, 112, 113, 114, 115, 116, 117, 118, 119, 120, 121, 122]))) (.tmp 52)) Option.none), (.mk (Option.some 54) (.atArray 65 1 (.tmp 12)
  (.tmp 49)) Option.none), (.mk Option.none (.store 1 (.tmp 54) (.tmp 53)) Option.none)]) (.region [(.mk (Option.some 55) (.mv (.tmp 1)) Option.none), (.mk (Option.some 56) (.mv
  (.tmp 14)) Option.none), (.mk (Option.some 57) (.bin .shr (.tmp 55) (.tmp 56)) Option.none), (.mk (Option.some 1) (.mv (.tmp 57)) Option.none)]))))))) (.seq (.region [(.mk
  (Option.some 58) (.mv (.tmp 13)) Option.none), (.mk (Option.some 59) (.bin .sub (.tmp 58) (.const (.int .i64 1))) Option.none), (.mk (Option.some 13) (.mv (.tmp 59))
  Option.none)]) (.region [(.mk (Option.some 60) (.mv (.tmp 13)) Option.none), (.mk (Option.some 61) (.mv (.tmp 1)) Option.none), (.mk (Option.some 62) (.byteAt (.const (.string
  (ByteArray.mk #[48, 49, 50, 51, 52, 53, 54, 55, 56, 57, 97, 98, 99, 100, 101, 102, 103, 104, 105, 106, 107, 108, 109, 110, 111, 112, 113, 114, 115, 116, 117, 118, 119, 120, 121,
  122]))) (.tmp 61)) Option.none), (.mk (Option.some 63) (.atArray 65 1 (.tmp 12) (.tmp 60)) Option.none), (.mk Option.none (.store 1 (.tmp 63) (.tmp 62)) Option.none)])))))) (.seq
  (.region [(.mk (Option.some 64) (.mv (.tmp 2)) Option.none), (.mk (Option.some 65) (.conv .u64 (.tmp 64)) Option.none), (.mk (Option.some 17) (.mv (.tmp 65)) Option.none)]) (.seq
  (.block 2 (.loop (.seq (.seq (.region [(.mk (Option.some 66) (.mv (.tmp 1)) Option.none), (.mk (Option.some 67) (.mv (.tmp 17)) Option.none), (.mk (Option.some 68) (.bin .geq
  (.tmp 66) (.tmp 67)) Option.none)]) (.cond (.tmp 68) .skip (.exit 2))) (.block 3 (.seq (.region [(.mk (Option.some 69) (.mv (.tmp 13)) Option.none), (.mk (Option.some 70) (.bin
  .sub (.tmp 69) (.const (.int .i64 1))) Option.none), (.mk (Option.some 13) (.mv (.tmp 70)) Option.none)]) (.seq (.region [(.mk (Option.some 71) (.mv (.tmp 1)) Option.none), (.mk
  (Option.some 72) (.mv (.tmp 17)) Option.none), (.mk (Option.some 73) (.bin .quo (.tmp 71) (.tmp 72)) Option.none), (.mk (Option.some 18) (.mv (.tmp 73)) Option.none)]) (.seq
  (.region [(.mk (Option.some 74) (.mv (.tmp 13)) Option.none), (.mk (Option.some 75) (.mv (.tmp 1)) Option.none), (.mk (Option.some 76) (.mv (.tmp 18)) Option.none), (.mk
  (Option.some 77) (.mv (.tmp 17)) Option.none), (.mk (Option.some 78) (.bin .mul (.tmp 76) (.tmp 77)) Option.none), (.mk (Option.some 79) (.bin .sub (.tmp 75) (.tmp 78))
  Option.none), (.mk (Option.some 80) (.byteAt (.const (.string (ByteArray.mk #[48, 49, 50, 51, 52, 53, 54, 55, 56, 57, 97, 98, 99, 100, 101, 102, 103, 104, 105, 106, 107, 108,
  109, 110, 111, 112, 113, 114, 115, 116, 117, 118, 119, 120, 121, 122]))) (.tmp 79)) Option.none), (.mk (Option.some 81) (.atArray 65 1 (.tmp 12) (.tmp 74)) Option.none), (.mk
  Option.none (.store 1 (.tmp 81) (.tmp 80)) Option.none)]) (.region [(.mk (Option.some 82) (.mv (.tmp 18)) Option.none), (.mk (Option.some 1) (.mv (.tmp 82)) Option.none)]))))))))
  (.seq (.region [(.mk (Option.some 83) (.mv (.tmp 13)) Option.none), (.mk (Option.some 84) (.bin .sub (.tmp 83) (.const (.int .i64 1))) Option.none), (.mk (Option.some 13) (.mv
  (.tmp 84)) Option.none)]) (.region [(.mk (Option.some 85) (.mv (.tmp 13)) Option.none), (.mk (Option.some 86) (.mv (.tmp 1)) Option.none), (.mk (Option.some 87) (.byteAt (.const
  (.string (ByteArray.mk #[48, 49, 50, 51, 52, 53, 54, 55, 56, 57, 97, 98, 99, 100, 101, 102, 103, 104, 105, 106, 107, 108, 109, 110, 111, 112, 113, 114, 115, 116, 117, 118, 119,
  120, 121, 122]))) (.tmp 86)) Option.none), (.mk (Option.some 88) (.atArray 65 1 (.tmp 12) (.tmp 85)) Option.none), (.mk Option.none (.store 1 (.tmp 88) (.tmp 87))
  Option.none)])))))) (.seq (.seq (.region [(.mk (Option.some 89) (.mv (.tmp 3)) Option.none)]) (.cond (.tmp 89) (.seq (.region [(.mk (Option.some 90) (.mv (.tmp 13)) Option.none),
  (.mk (Option.some 91) (.bin .sub (.tmp 90) (.const (.int .i64 1))) Option.none), (.mk (Option.some 13) (.mv (.tmp 91)) Option.none)]) (.region [(.mk (Option.some 92) (.mv (.tmp
  13)) Option.none), (.mk (Option.some 93) (.atArray 65 1 (.tmp 12) (.tmp 92)) Option.none), (.mk Option.none (.store 1 (.tmp 93) (.const (.int .u8 45))) Option.none)])) .skip))
  (.seq (.seq (.region [(.mk (Option.some 94) (.mv (.tmp 4)) Option.none)]) (.cond (.tmp 94) (.seq (.region [(.mk (Option.some 95) (.mv (.tmp 0)) Option.none), (.mk (Option.some
  96) (.mv (.tmp 13)) Option.none), (.mk (Option.some 97) (.cutArray 65 1 (.tmp 12) (Option.some (.tmp 96)) Option.none Option.none) Option.none), (.mk (Option.some 98) (.append
  Bool.false 1 1 (.tmp 95) (.tmp 97)) Option.none), (.mk (Option.some 10) (.mv (.tmp 98)) Option.none)]) .ret) .skip)) (.seq (.region [(.mk (Option.some 99) (.mv (.tmp 13))
  Option.none), (.mk (Option.some 100) (.cutArray 65 1 (.tmp 12) (Option.some (.tmp 99)) Option.none Option.none) Option.none), (.mk (Option.some 101) (.textOf (.tmp 100))
  Option.none), (.mk (Option.some 11) (.mv (.tmp 101)) Option.none)]) .ret))))))))) 102 [(.tmp 10), (.tmp 11)])
def a108 : AFn :=
  (.mk (.seq (.region [(.mk (Option.some 2) (.mv (.const (.int .i64 0))) Option.none)]) (.seq (.seq (.region [(.mk (Option.some 3) (.mv (.tmp 0)) Option.none), (.mk (Option.some 4)
  (.range Bool.false (.tmp 3)) Option.none)]) (.block 0 (.loop (.seq (.region [(.mk (Option.some 5) (.next Bool.true (.tmp 4)) Option.none), (.mk (Option.some 6) (.extract (.tmp 5)
  0) Option.none)]) (.seq (.cond (.tmp 6) .skip (.exit 0)) (.block 1 (.region [(.mk (Option.some 7) (.mv (.tmp 2)) Option.none), (.mk (Option.some 8) (.bin .add (.tmp 7) (.const
  (.int .i64 1))) Option.none), (.mk (Option.some 2) (.mv (.tmp 8)) Option.none)]))))))) (.seq (.region [(.mk (Option.some 9) (.mv (.tmp 2)) Option.none), (.mk (Option.some 2) (.mv
  (.tmp 9)) Option.none)]) .ret))) 10 [(.tmp 2)])
def a109 : AFn :=
  (.mk (.seq (.region [(.mk (Option.some 2) (.mv (.const (.int .i32 0))) Option.none), (.mk (Option.some 3) (.mv (.const (.int .i64 0))) Option.none)]) (.seq (.seq (.region [(.mk
  (Option.some 4) (.mv (.tmp 0)) Option.none), (.mk (Option.some 5) (.bin .neq (.tmp 4) (.const (.string (ByteArray.mk #[])))) Option.none), (.mk (Option.some 6) (.mv (.tmp 5))
  Option.none), (.mk (Option.some 7) (.mv (.tmp 0)) (Option.some (6, Bool.true))), (.mk (Option.some 8) (.byteAt (.tmp 7) (.const (.int .i64 0))) (Option.some (6, Bool.true))),
  (.mk (Option.some 9) (.bin .lss (.tmp 8) (.const (.int .u8 128))) (Option.some (6, Bool.true))), (.mk (Option.some 10) (.pick (.tmp 6) (.tmp 9) (.const (.bool Bool.false)))
  Option.none)]) (.cond (.tmp 10) (.seq (.region [(.mk (Option.some 11) (.mv (.tmp 0)) Option.none), (.mk (Option.some 12) (.byteAt (.tmp 11) (.const (.int .i64 0))) Option.none),
  (.mk (Option.some 13) (.conv .i32 (.tmp 12)) Option.none), (.mk (Option.some 2) (.mv (.tmp 13)) Option.none), (.mk (Option.some 3) (.mv (.const (.int .i64 1))) Option.none)])
  .ret) (.region [(.mk (Option.some 15) (.mv (.tmp 0)) Option.none), (.mk (Option.some 16) (.call 124 [(.tmp 15)]) Option.none), (.mk (Option.some 14) (.mv (.tmp 16)) Option.none),
  (.mk (Option.some 17) (.extract (.tmp 14) 0) Option.none), (.mk (Option.some 18) (.extract (.tmp 14) 1) Option.none), (.mk (Option.some 2) (.mv (.tmp 17)) Option.none), (.mk
  (Option.some 3) (.mv (.tmp 18)) Option.none)]))) .ret)) 19 [(.tmp 2), (.tmp 3)])
def a111 : AFn :=
  (.mk (.seq (.region [(.mk (Option.some 4) (.mv (.const (.int .i64 0))) Option.none)]) (.seq (.region [(.mk (Option.some 14) (.mv (.tmp 1)) Option.none), (.mk (Option.some 15)
  (.lenStr (.tmp 14)) Option.none), (.mk (Option.some 5) (.mv (.tmp 15)) Option.none)]) (.seq (.block 0 (.seq (.region [(.mk (Option.some 17) (.mv (.tmp 5)) Option.none), (.mk
  (Option.some 18) (.bin .eql (.tmp 17) (.const (.int .i64 0))) Option.none), (.mk (Option.some 19) (.mv (.tmp 18)) Option.none), (.mk (Option.some 20) (.mv (.tmp 1)) (Option.some
  (19, Bool.false))), (.mk (Option.some 21) (.mv (.tmp 0)) (Option.some (19, Bool.false))), (.mk (Option.some 22) (.bin .eql (.tmp 20) (.tmp 21)) (Option.some (19, Bool.false))),
  (.mk (Option.some 23) (.pick (.tmp 19) (.const (.bool Bool.true)) (.tmp 22)) Option.none), (.mk (Option.some 16) (.mv (.tmp 23)) Option.none)]) (.cond (.tmp 16) (.seq (.region
  [(.mk (Option.some 4) (.mv (.const (.int .i64 0))) Option.none)]) .ret) (.seq (.region [(.mk (Option.some 25) (.mv (.tmp 5)) Option.none), (.mk (Option.some 26) (.bin .eql (.tmp
  25) (.const (.int .i64 1))) Option.none), (.mk (Option.some 24) (.mv (.tmp 26)) Option.none)]) (.cond (.tmp 24) (.seq (.region [(.mk (Option.some 27) (.mv (.tmp 0)) Option.none),
  (.mk (Option.some 28) (.mv (.tmp 1)) Option.none), (.mk (Option.some 29) (.byteAt (.tmp 28) (.const (.int .i64 0))) Option.none), (.mk (Option.some 30) (.call 125 [(.tmp 27),
  (.tmp 29)]) Option.none), (.mk (Option.some 4) (.mv (.tmp 30)) Option.none)]) .ret) (.seq (.region [(.mk (Option.some 32) (.mv (.tmp 5)) Option.none), (.mk (Option.some 33) (.mv
  (.tmp 0)) Option.none), (.mk (Option.some 34) (.lenStr (.tmp 33)) Option.none), (.mk (Option.some 35) (.bin .geq (.tmp 32) (.tmp 34)) Option.none), (.mk (Option.some 31) (.mv
  (.tmp 35)) Option.none)]) (.cond (.tmp 31) (.seq (.region [(.mk (Option.some 4) (.mv (.const (.int .i64 (-1)))) Option.none)]) .ret) (.seq (.region [(.mk (Option.some 37) (.mv
  (.tmp 5)) Option.none), (.mk (Option.some 38) (.load 1 Bool.false (.global 2)) Option.none), (.mk (Option.some 39) (.bin .leq (.tmp 37) (.tmp 38)) Option.none), (.mk (Option.some
  40) (.mv (.tmp 39)) Option.none), (.mk (Option.some 41) (.mv (.tmp 0)) (Option.some (40, Bool.true))), (.mk (Option.some 42) (.lenStr (.tmp 41)) (Option.some (40, Bool.true))),
  (.mk (Option.some 43) (.bin .leq (.tmp 42) (.const (.int .i64 64))) (Option.some (40, Bool.true))), (.mk (Option.some 44) (.pick (.tmp 40) (.tmp 43) (.const (.bool Bool.false)))
  Option.none), (.mk (Option.some 36) (.mv (.tmp 44)) Option.none)]) (.cond (.tmp 36) (.seq (.region [(.mk (Option.some 45) (.mv (.tmp 0)) Option.none), (.mk (Option.some 46) (.mv
  (.tmp 1)) Option.none), (.mk (Option.some 47) (.call 126 [(.tmp 45), (.tmp 46)]) Option.none), (.mk (Option.some 4) (.mv (.tmp 47)) Option.none)]) .ret) .skip))))))))) (.seq
  (.region [(.mk (Option.some 48) (.mv (.tmp 1)) Option.none), (.mk (Option.some 49) (.byteAt (.tmp 48) (.const (.int .i64 0))) Option.none), (.mk (Option.some 6) (.mv (.tmp 49))
  Option.none)]) (.seq (.region [(.mk (Option.some 50) (.mv (.tmp 1)) Option.none), (.mk (Option.some 51) (.byteAt (.tmp 50) (.const (.int .i64 1))) Option.none), (.mk (Option.some
  7) (.mv (.tmp 51)) Option.none)]) (.seq (.region [(.mk (Option.some 8) (.mv (.const (.int .i64 0))) Option.none)]) (.seq (.region [(.mk (Option.some 52) (.mv (.tmp 0))
  Option.none), (.mk (Option.some 53) (.lenStr (.tmp 52)) Option.none), (.mk (Option.some 54) (.mv (.tmp 5)) Option.none), (.mk (Option.some 55) (.bin .sub (.tmp 53) (.tmp 54))
  Option.none), (.mk (Option.some 56) (.bin .add (.tmp 55) (.const (.int .i64 1))) Option.none), (.mk (Option.some 9) (.mv (.tmp 56)) Option.none)]) (.seq (.region [(.mk
  (Option.some 10) (.mv (.const (.int .i64 0))) Option.none)]) (.seq (.block 1 (.loop (.seq (.seq (.region [(.mk (Option.some 57) (.mv (.tmp 8)) Option.none), (.mk (Option.some 58)
  (.mv (.tmp 9)) Option.none), (.mk (Option.some 59) (.bin .lss (.tmp 57) (.tmp 58)) Option.none)]) (.cond (.tmp 59) .skip (.exit 1))) (.block 2 (.seq (.seq (.region [(.mk
  (Option.some 60) (.mv (.tmp 0)) Option.none), (.mk (Option.some 61) (.mv (.tmp 8)) Option.none), (.mk (Option.some 62) (.byteAt (.tmp 60) (.tmp 61)) Option.none), (.mk
  (Option.some 63) (.mv (.tmp 6)) Option.none), (.mk (Option.some 64) (.bin .neq (.tmp 62) (.tmp 63)) Option.none)]) (.cond (.tmp 64) (.seq (.region [(.mk (Option.some 65) (.mv
  (.tmp 0)) Option.none), (.mk (Option.some 66) (.mv (.tmp 8)) Option.none), (.mk (Option.some 67) (.bin .add (.tmp 66) (.const (.int .i64 1))) Option.none), (.mk (Option.some 68)
  (.mv (.tmp 9)) Option.none), (.mk (Option.some 69) (.cutStr (.tmp 65) (Option.some (.tmp 67)) (Option.some (.tmp 68))) Option.none), (.mk (Option.some 70) (.mv (.tmp 6))
  Option.none), (.mk (Option.some 71) (.call 125 [(.tmp 69), (.tmp 70)]) Option.none), (.mk (Option.some 11) (.mv (.tmp 71)) Option.none)]) (.seq (.seq (.region [(.mk (Option.some
  72) (.mv (.tmp 11)) Option.none), (.mk (Option.some 73) (.bin .lss (.tmp 72) (.const (.int .i64 0))) Option.none)]) (.cond (.tmp 73) (.seq (.region [(.mk (Option.some 4) (.mv
  (.const (.int .i64 (-1)))) Option.none)]) .ret) .skip)) (.region [(.mk (Option.some 74) (.mv (.tmp 8)) Option.none), (.mk (Option.some 75) (.mv (.tmp 11)) Option.none), (.mk
  (Option.some 76) (.bin .add (.tmp 75) (.const (.int .i64 1))) Option.none), (.mk (Option.some 77) (.bin .add (.tmp 74) (.tmp 76)) Option.none), (.mk (Option.some 8) (.mv (.tmp
  77)) Option.none)]))) .skip)) (.seq (.seq (.region [(.mk (Option.some 78) (.mv (.tmp 0)) Option.none), (.mk (Option.some 79) (.mv (.tmp 8)) Option.none), (.mk (Option.some 80)
  (.bin .add (.tmp 79) (.const (.int .i64 1))) Option.none), (.mk (Option.some 81) (.byteAt (.tmp 78) (.tmp 80)) Option.none), (.mk (Option.some 82) (.mv (.tmp 7)) Option.none),
  (.mk (Option.some 83) (.bin .eql (.tmp 81) (.tmp 82)) Option.none), (.mk (Option.some 84) (.mv (.tmp 83)) Option.none), (.mk (Option.some 85) (.mv (.tmp 0)) (Option.some (84,
  Bool.true))), (.mk (Option.some 86) (.mv (.tmp 8)) (Option.some (84, Bool.true))), (.mk (Option.some 87) (.mv (.tmp 8)) (Option.some (84, Bool.true))), (.mk (Option.some 88) (.mv
  (.tmp 5)) (Option.some (84, Bool.true))), (.mk (Option.some 89) (.bin .add (.tmp 87) (.tmp 88)) (Option.some (84, Bool.true))), (.mk (Option.some 90) (.cutStr (.tmp 85)
  (Option.some (.tmp 86)) (Option.some (.tmp 89))) (Option.some (84, Bool.true))), (.mk (Option.some 91) (.mv (.tmp 1)) (Option.some (84, Bool.true))), (.mk (Option.some 92) (.bin
  .eql (.tmp 90) (.tmp 91)) (Option.some (84, Bool.true))), (.mk (Option.some 93) (.pick (.tmp 84) (.tmp 92) (.const (.bool Bool.false))) Option.none)]) (.cond (.tmp 93) (.seq
  (.region [(.mk (Option.some 94) (.mv (.tmp 8)) Option.none), (.mk (Option.some 4) (.mv (.tmp 94)) Option.none)]) .ret) .skip)) (.seq (.region [(.mk (Option.some 95) (.mv (.tmp
  8)) Option.none), (.mk (Option.some 96) (.bin .add (.tmp 95) (.const (.int .i64 1))) Option.none), (.mk (Option.some 8) (.mv (.tmp 96)) Option.none)]) (.seq (.region [(.mk
  (Option.some 97) (.mv (.tmp 10)) Option.none), (.mk (Option.some 98) (.bin .add (.tmp 97) (.const (.int .i64 1))) Option.none), (.mk (Option.some 10) (.mv (.tmp 98))
  Option.none)]) (.seq (.region [(.mk (Option.some 99) (.mv (.tmp 5)) Option.none), (.mk (Option.some 100) (.load 1 Bool.false (.global 2)) Option.none), (.mk (Option.some 101)
  (.bin .leq (.tmp 99) (.tmp 100)) Option.none), (.mk (Option.some 102) (.mv (.tmp 101)) Option.none), (.mk (Option.some 103) (.mv (.tmp 10)) (Option.some (102, Bool.true))), (.mk
  (Option.some 104) (.mv (.tmp 8)) (Option.some (102, Bool.true))), (.mk (Option.some 105) (.call 127 [(.tmp 104)]) (Option.some (102, Bool.true))), (.mk (Option.some 106) (.bin
  .gtr (.tmp 103) (.tmp 105)) (Option.some (102, Bool.true))), (.mk (Option.some 107) (.pick (.tmp 102) (.tmp 106) (.const (.bool Bool.false))) Option.none)]) (.cond (.tmp 107)
  (.seq (.region [(.mk (Option.some 108) (.mv (.tmp 0)) Option.none), (.mk (Option.some 109) (.mv (.tmp 8)) Option.none), (.mk (Option.some 110) (.cutStr (.tmp 108) (Option.some
  (.tmp 109)) Option.none) Option.none), (.mk (Option.some 111) (.mv (.tmp 1)) Option.none), (.mk (Option.some 112) (.call 126 [(.tmp 110), (.tmp 111)]) Option.none), (.mk
  (Option.some 12) (.mv (.tmp 112)) Option.none)]) (.seq (.seq (.region [(.mk (Option.some 113) (.mv (.tmp 12)) Option.none), (.mk (Option.some 114) (.bin .geq (.tmp 113) (.const
  (.int .i64 0))) Option.none)]) (.cond (.tmp 114) (.seq (.region [(.mk (Option.some 115) (.mv (.tmp 12)) Option.none), (.mk (Option.some 116) (.mv (.tmp 8)) Option.none), (.mk
  (Option.some 117) (.bin .add (.tmp 115) (.tmp 116)) Option.none), (.mk (Option.some 4) (.mv (.tmp 117)) Option.none)]) .ret) .skip)) (.seq (.region [(.mk (Option.some 4) (.mv
  (.const (.int .i64 (-1)))) Option.none)]) .ret))) (.seq (.region [(.mk (Option.some 118) (.mv (.tmp 5)) Option.none), (.mk (Option.some 119) (.load 1 Bool.false (.global 2))
  Option.none), (.mk (Option.some 120) (.bin .gtr (.tmp 118) (.tmp 119)) Option.none), (.mk (Option.some 121) (.mv (.tmp 120)) Option.none), (.mk (Option.some 122) (.mv (.tmp 10))
  (Option.some (121, Bool.true))), (.mk (Option.some 123) (.mv (.tmp 8)) (Option.some (121, Bool.true))), (.mk (Option.some 124) (.bin .shr (.tmp 123) (.const (.int .u64 4)))
  (Option.some (121, Bool.true))), (.mk (Option.some 125) (.bin .add (.const (.int .i64 4)) (.tmp 124)) (Option.some (121, Bool.true))), (.mk (Option.some 126) (.bin .geq (.tmp
  122) (.tmp 125)) (Option.some (121, Bool.true))), (.mk (Option.some 127) (.pick (.tmp 121) (.tmp 126) (.const (.bool Bool.false))) Option.none), (.mk (Option.some 128) (.mv (.tmp
  127)) Option.none), (.mk (Option.some 129) (.mv (.tmp 8)) (Option.some (128, Bool.true))), (.mk (Option.some 130) (.mv (.tmp 9)) (Option.some (128, Bool.true))), (.mk
  (Option.some 131) (.bin .lss (.tmp 129) (.tmp 130)) (Option.some (128, Bool.true))), (.mk (Option.some 132) (.pick (.tmp 128) (.tmp 131) (.const (.bool Bool.false)))
  Option.none)]) (.cond (.tmp 132) (.seq (.region [(.mk (Option.some 133) (.mv (.tmp 0)) Option.none), (.mk (Option.some 134) (.mv (.tmp 8)) Option.none), (.mk (Option.some 135)
  (.cutStr (.tmp 133) (Option.some (.tmp 134)) Option.none) Option.none), (.mk (Option.some 136) (.mv (.tmp 1)) Option.none), (.mk (Option.some 137) (.call 128 [(.tmp 135), (.tmp
  136)]) Option.none), (.mk (Option.some 13) (.mv (.tmp 137)) Option.none)]) (.seq (.seq (.region [(.mk (Option.some 138) (.mv (.tmp 13)) Option.none), (.mk (Option.some 139) (.bin
  .lss (.tmp 138) (.const (.int .i64 0))) Option.none)]) (.cond (.tmp 139) (.seq (.region [(.mk (Option.some 4) (.mv (.const (.int .i64 (-1)))) Option.none)]) .ret) .skip)) (.seq
  (.region [(.mk (Option.some 140) (.mv (.tmp 8)) Option.none), (.mk (Option.some 141) (.mv (.tmp 13)) Option.none), (.mk (Option.some 142) (.bin .add (.tmp 140) (.tmp 141))
  Option.none), (.mk (Option.some 4) (.mv (.tmp 142)) Option.none)]) .ret))) .skip)))))))))))) (.seq (.region [(.mk (Option.some 4) (.mv (.const (.int .i64 (-1)))) Option.none)])
  .ret)))))))))) 143 [(.tmp 4)])
def a112 : AFn :=
  (.mk (.seq (.region [(.mk (Option.some 6) (.mv (.const (.int .i64 0))) Option.none), (.mk (Option.some 7) (.mv (.const .nilIface)) Option.none)]) (.seq (.seq (.region [(.mk
  (Option.some 12) (.mv (.tmp 0)) Option.none), (.mk (Option.some 13) (.bin .eql (.tmp 12) (.const (.string (ByteArray.mk #[])))) Option.none)]) (.cond (.tmp 13) (.seq (.region
  [(.mk (Option.some 14) (.mkIface 186 (.const (.int .i64 2))) Option.none), (.mk (Option.some 6) (.mv (.const (.int .i64 0))) Option.none), (.mk (Option.some 7) (.mv (.tmp 14))
  Option.none)]) .ret) .skip)) (.seq (.region [(.mk (Option.some 8) (.mv (.const (.bool Bool.false))) Option.none)]) (.seq (.seq (.region [(.mk (Option.some 15) (.mv (.tmp 0))
  Option.none), (.mk (Option.some 16) (.byteAt (.tmp 15) (.const (.int .i64 0))) Option.none)]) (.block 0 (.seq (.region [(.mk (Option.some 18) (.bin .eql (.tmp 16) (.const (.int
  .u8 43))) Option.none), (.mk (Option.some 17) (.mv (.tmp 18)) Option.none)]) (.cond (.tmp 17) (.region [(.mk (Option.some 19) (.mv (.tmp 0)) Option.none), (.mk (Option.some 20)
  (.cutStr (.tmp 19) (Option.some (.const (.int .i64 1))) Option.none) Option.none), (.mk (Option.some 0) (.mv (.tmp 20)) Option.none)]) (.seq (.region [(.mk (Option.some 22) (.bin
  .eql (.tmp 16) (.const (.int .u8 45))) Option.none), (.mk (Option.some 21) (.mv (.tmp 22)) Option.none)]) (.cond (.tmp 21) (.seq (.region [(.mk (Option.some 23) (.mv (.tmp 0))
  Option.none), (.mk (Option.some 24) (.cutStr (.tmp 23) (Option.some (.const (.int .i64 1))) Option.none) Option.none), (.mk (Option.some 0) (.mv (.tmp 24)) Option.none)])
  (.region [(.mk (Option.some 8) (.mv (.const (.bool Bool.true))) Option.none)])) .skip)))))) (.seq (.region [(.mk (Option.some 9) (.mv (.const (.int .u64 0))) Option.none)]) (.seq
  (.region [(.mk (Option.some 26) (.mv (.tmp 0)) Option.none), (.mk (Option.some 27) (.mv (.tmp 1)) Option.none), (.mk (Option.some 28) (.mv (.tmp 2)) Option.none), (.mk
  (Option.some 29) (.call 129 [(.tmp 26), (.tmp 27), (.tmp 28)]) Option.none), (.mk (Option.some 25) (.mv (.tmp 29)) Option.none), (.mk (Option.some 30) (.extract (.tmp 25) 0)
  Option.none), (.mk (Option.some 31) (.extract (.tmp 25) 1) Option.none), (.mk (Option.some 9) (.mv (.tmp 30)) Option.none), (.mk (Option.some 7) (.mv (.tmp 31)) Option.none)])
  (.seq (.seq (.region [(.mk (Option.some 32) (.mv (.tmp 7)) Option.none), (.mk (Option.some 33) (.eq (.iface Bool.true) Bool.true (.tmp 32) (.const .nilIface)) Option.none), (.mk
  (Option.some 34) (.mv (.tmp 33)) Option.none), (.mk (Option.some 35) (.mv (.tmp 7)) (Option.some (34, Bool.true))), (.mk (Option.some 36) (.mkIface 186 (.const (.int .i64 1)))
  (Option.some (34, Bool.true))), (.mk (Option.some 37) (.eq (.dyn [15, 17, 69, 75, 81, 95, 102, 129, 167, 189, 206, 226]) Bool.true (.tmp 35) (.tmp 36)) (Option.some (34,
  Bool.true))), (.mk (Option.some 38) (.pick (.tmp 34) (.tmp 37) (.const (.bool Bool.false))) Option.none)]) (.cond (.tmp 38) (.seq (.region [(.mk (Option.some 39) (.mv (.tmp 7))
  Option.none), (.mk (Option.some 6) (.mv (.const (.int .i64 0))) Option.none), (.mk (Option.some 7) (.mv (.tmp 39)) Option.none)]) .ret) .skip)) (.seq (.seq (.region [(.mk
  (Option.some 40) (.mv (.tmp 2)) Option.none), (.mk (Option.some 41) (.bin .eql (.tmp 40) (.const (.int .i64 0))) Option.none)]) (.cond (.tmp 41) (.region [(.mk (Option.some 2)
  (.mv (.const (.int .i64 64))) Option.none)]) .skip)) (.seq (.region [(.mk (Option.some 42) (.mv (.tmp 2)) Option.none), (.mk (Option.some 43) (.bin .sub (.tmp 42) (.const (.int
  .i64 1))) Option.none), (.mk (Option.some 44) (.conv .u64 (.tmp 43)) Option.none), (.mk (Option.some 45) (.bin .shl (.const (.int .u64 1)) (.tmp 44)) Option.none), (.mk
  (Option.some 10) (.mv (.tmp 45)) Option.none)]) (.seq (.seq (.region [(.mk (Option.some 46) (.mv (.tmp 8)) Option.none), (.mk (Option.some 47) (.un .not (.tmp 46)) Option.none),
  (.mk (Option.some 48) (.mv (.tmp 47)) Option.none), (.mk (Option.some 49) (.mv (.tmp 9)) (Option.some (48, Bool.true))), (.mk (Option.some 50) (.mv (.tmp 10)) (Option.some (48,
  Bool.true))), (.mk (Option.some 51) (.bin .geq (.tmp 49) (.tmp 50)) (Option.some (48, Bool.true))), (.mk (Option.some 52) (.pick (.tmp 48) (.tmp 51) (.const (.bool Bool.false)))
  Option.none)]) (.cond (.tmp 52) (.seq (.region [(.mk (Option.some 53) (.mv (.tmp 10)) Option.none), (.mk (Option.some 54) (.bin .sub (.tmp 53) (.const (.int .u64 1)))
  Option.none), (.mk (Option.some 55) (.conv .i64 (.tmp 54)) Option.none), (.mk (Option.some 56) (.mkIface 186 (.const (.int .i64 1))) Option.none), (.mk (Option.some 6) (.mv (.tmp
  55)) Option.none), (.mk (Option.some 7) (.mv (.tmp 56)) Option.none)]) .ret) .skip)) (.seq (.seq (.region [(.mk (Option.some 57) (.mv (.tmp 8)) Option.none), (.mk (Option.some
  58) (.mv (.tmp 57)) Option.none), (.mk (Option.some 59) (.mv (.tmp 9)) (Option.some (58, Bool.true))), (.mk (Option.some 60) (.mv (.tmp 10)) (Option.some (58, Bool.true))), (.mk
  (Option.some 61) (.bin .gtr (.tmp 59) (.tmp 60)) (Option.some (58, Bool.true))), (.mk (Option.some 62) (.pick (.tmp 58) (.tmp 61) (.const (.bool Bool.false))) Option.none)])
  (.cond (.tmp 62) (.seq (.region [(.mk (Option.some 63) (.mv (.tmp 10)) Option.none), (.mk (Option.some 64) (.conv .i64 (.tmp 63)) Option.none), (.mk (Option.some 65) (.un .neg
  (.tmp 64)) Option.none), (.mk (Option.some 66) (.mkIface 186 (.const (.int .i64 1))) Option.none), (.mk (Option.some 6) (.mv (.tmp 65)) Option.none), (.mk (Option.some 7) (.mv
  (.tmp 66)) Option.none)]) .ret) .skip)) (.seq (.region [(.mk (Option.some 67) (.mv (.tmp 9)) Option.none), (.mk (Option.some 68) (.conv .i64 (.tmp 67)) Option.none), (.mk
  (Option.some 11) (.mv (.tmp 68)) Option.none)]) (.seq (.seq (.region [(.mk (Option.some 69) (.mv (.tmp 8)) Option.none)]) (.cond (.tmp 69) (.region [(.mk (Option.some 70) (.mv
  (.tmp 11)) Option.none), (.mk (Option.some 71) (.un .neg (.tmp 70)) Option.none), (.mk (Option.some 11) (.mv (.tmp 71)) Option.none)]) .skip)) (.seq (.region [(.mk (Option.some
  72) (.mv (.tmp 11)) Option.none), (.mk (Option.some 6) (.mv (.tmp 72)) Option.none), (.mk (Option.some 7) (.mv (.const .nilIface)) Option.none)]) .ret)))))))))))))) 73 [(.tmp 6),
  (.tmp 7)])
def a113 : AFn :=
  (.mk (.seq (.region [(.mk (Option.some 10) (.mv (.const .nilIface)) Option.none)]) (.seq (.seq (.region [(.mk (Option.some 11) (.mv (.tmp 4)) Option.none)]) (.block 0 (.seq
  (.region [(.mk (Option.some 13) (.mkIface 186 (.const (.int .i64 2))) Option.none), (.mk (Option.some 14) (.eq (.dyn [15, 17, 69, 75, 81, 95, 102, 129, 167, 189, 206, 226])
  Bool.false (.tmp 11) (.tmp 13)) Option.none), (.mk (Option.some 12) (.mv (.tmp 14)) Option.none)]) (.cond (.tmp 12) (.seq (.region [(.mk (Option.some 15) (.mv (.tmp 0))
  Option.none), (.mk (Option.some 16) (.mv (.tmp 1)) Option.none), (.mk (Option.some 17) (.call 130 [(.tmp 15), (.tmp 16)]) Option.none), (.mk (Option.some 18) (.mkIface 189 (.tmp
  17)) Option.none), (.mk (Option.some 10) (.mv (.tmp 18)) Option.none)]) .ret) (.seq (.region [(.mk (Option.some 20) (.mkIface 186 (.const (.int .i64 1))) Option.none), (.mk
  (Option.some 21) (.eq (.dyn [15, 17, 69, 75, 81, 95, 102, 129, 167, 189, 206, 226]) Bool.false (.tmp 11) (.tmp 20)) Option.none), (.mk (Option.some 19) (.mv (.tmp 21))
  Option.none)]) (.cond (.tmp 19) (.seq (.region [(.mk (Option.some 22) (.mv (.tmp 0)) Option.none), (.mk (Option.some 23) (.mv (.tmp 1)) Option.none), (.mk (Option.some 24) (.call
  131 [(.tmp 22), (.tmp 23)]) Option.none), (.mk (Option.some 25) (.mkIface 189 (.tmp 24)) Option.none), (.mk (Option.some 10) (.mv (.tmp 25)) Option.none)]) .ret) (.seq (.region
  [(.mk (Option.some 27) (.mkIface 186 (.const (.int .i64 3))) Option.none), (.mk (Option.some 28) (.eq (.dyn [15, 17, 69, 75, 81, 95, 102, 129, 167, 189, 206, 226]) Bool.false
  (.tmp 11) (.tmp 27)) Option.none), (.mk (Option.some 26) (.mv (.tmp 28)) Option.none)]) (.cond (.tmp 26) (.seq (.region [(.mk (Option.some 29) (.mv (.tmp 0)) Option.none), (.mk
  (Option.some 30) (.mv (.tmp 1)) Option.none), (.mk (Option.some 31) (.mv (.tmp 2)) Option.none), (.mk (Option.some 32) (.call 132 [(.tmp 29), (.tmp 30), (.tmp 31)]) Option.none),
  (.mk (Option.some 33) (.mkIface 189 (.tmp 32)) Option.none), (.mk (Option.some 10) (.mv (.tmp 33)) Option.none)]) .ret) (.seq (.region [(.mk (Option.some 35) (.mkIface 186
  (.const (.int .i64 4))) Option.none), (.mk (Option.some 36) (.eq (.dyn [15, 17, 69, 75, 81, 95, 102, 129, 167, 189, 206, 226]) Bool.false (.tmp 11) (.tmp 35)) Option.none), (.mk
  (Option.some 34) (.mv (.tmp 36)) Option.none)]) (.cond (.tmp 34) (.seq (.region [(.mk (Option.some 37) (.mv (.tmp 0)) Option.none), (.mk (Option.some 38) (.mv (.tmp 1))
  Option.none), (.mk (Option.some 39) (.mv (.tmp 3)) Option.none), (.mk (Option.some 40) (.call 133 [(.tmp 37), (.tmp 38), (.tmp 39)]) Option.none), (.mk (Option.some 41) (.mkIface
  189 (.tmp 40)) Option.none), (.mk (Option.some 10) (.mv (.tmp 41)) Option.none)]) .ret) .skip)))))))))) (.seq (.region [(.mk (Option.some 42) (.mv (.tmp 4)) Option.none), (.mk
  (Option.some 10) (.mv (.tmp 42)) Option.none)]) .ret))) 43 [(.tmp 10)])
def a117 : AFn :=
  (.mk (.seq (.region [(.mk (Option.some 4) (.mv (.const (.int .i64 0))) Option.none)]) (.seq (.seq (.region [(.mk (Option.some 6) (.mv (.tmp 0)) Option.none), (.mk (Option.some 7)
  (.len (.tmp 6)) Option.none), (.mk (Option.some 8) (.mv (.const (.int .i64 0))) Option.none)]) (.block 0 (.loop (.seq (.region [(.mk (Option.some 9) (.bin .lss (.tmp 8) (.tmp 7))
  Option.none)]) (.seq (.cond (.tmp 9) .skip (.exit 0)) (.seq (.block 1 (.seq (.region [(.mk (Option.some 10) (.mv (.tmp 8)) Option.none), (.mk (Option.some 5) (.mv (.tmp 10))
  Option.none)]) (.seq (.region [(.mk (Option.some 11) (.mv (.tmp 1)) Option.none), (.mk (Option.some 12) (.mv (.tmp 0)) Option.none), (.mk (Option.some 13) (.mv (.tmp 5))
  Option.none), (.mk (Option.some 14) (.atSlice 1 (.tmp 12) (.tmp 13)) Option.none), (.mk (Option.some 15) (.load 1 Bool.false (.tmp 14)) Option.none), (.mk (Option.some 16) (.bin
  .eql (.tmp 11) (.tmp 15)) Option.none)]) (.cond (.tmp 16) (.seq (.region [(.mk (Option.some 17) (.mv (.tmp 5)) Option.none), (.mk (Option.some 4) (.mv (.tmp 17)) Option.none)])
  .ret) .skip)))) (.region [(.mk (Option.some 18) (.bin .add (.tmp 8) (.const (.int .i64 1))) Option.none), (.mk (Option.some 8) (.mv (.tmp 18)) Option.none)]))))))) (.seq (.region
  [(.mk (Option.some 4) (.mv (.const (.int .i64 (-1)))) Option.none)]) .ret))) 19 [(.tmp 4)])
def a118 : AFn :=
  (.mk (.seq (.region [(.mk (Option.some 4) (.mv (.const (.bool Bool.false))) Option.none)]) (.seq (.region [(.mk (Option.some 5) (.mv (.tmp 0)) Option.none), (.mk (Option.some 6)
  (.lenStr (.tmp 5)) Option.none), (.mk (Option.some 7) (.mv (.tmp 1)) Option.none), (.mk (Option.some 8) (.lenStr (.tmp 7)) Option.none), (.mk (Option.some 9) (.bin .geq (.tmp 6)
  (.tmp 8)) Option.none), (.mk (Option.some 10) (.mv (.tmp 9)) Option.none), (.mk (Option.some 11) (.mv (.tmp 0)) (Option.some (10, Bool.true))), (.mk (Option.some 12) (.mv (.tmp
  1)) (Option.some (10, Bool.true))), (.mk (Option.some 13) (.lenStr (.tmp 12)) (Option.some (10, Bool.true))), (.mk (Option.some 14) (.cutStr (.tmp 11) Option.none (Option.some
  (.tmp 13))) (Option.some (10, Bool.true))), (.mk (Option.some 15) (.mv (.tmp 1)) (Option.some (10, Bool.true))), (.mk (Option.some 16) (.bin .eql (.tmp 14) (.tmp 15))
  (Option.some (10, Bool.true))), (.mk (Option.some 17) (.pick (.tmp 10) (.tmp 16) (.const (.bool Bool.false))) Option.none), (.mk (Option.some 4) (.mv (.tmp 17)) Option.none)])
  .ret)) 18 [(.tmp 4)])
def a119 : AFn :=
  (.mk (.seq (.region [(.mk (Option.some 2) (.mv (.const (.int .i64 0))) Option.none)]) (.seq (.region [(.mk (Option.some 3) (.mv (.tmp 0)) Option.none), (.mk (Option.some 4) (.bin
  .mul (.tmp 3) (.const (.int .i64 78913))) Option.none), (.mk (Option.some 5) (.bin .shr (.tmp 4) (.const (.int .u64 18))) Option.none), (.mk (Option.some 2) (.mv (.tmp 5))
  Option.none)]) .ret)) 6 [(.tmp 2)])
def a120 : AFn :=
  (.mk (.seq (.region [(.mk (Option.some 2) (.mv (.const (.int .i64 0))) Option.none)]) (.seq (.seq (.region [(.mk (Option.some 3) (.mv (.tmp 0)) Option.none), (.mk (Option.some 4)
  (.bin .geq (.tmp 3) (.const (.int .u64 4294967296))) Option.none)]) (.cond (.tmp 4) (.seq (.region [(.mk (Option.some 5) (.mv (.tmp 0)) Option.none), (.mk (Option.some 6) (.bin
  .shr (.tmp 5) (.const (.int .u64 32))) Option.none), (.mk (Option.some 0) (.mv (.tmp 6)) Option.none)]) (.region [(.mk (Option.some 2) (.mv (.const (.int .i64 32)))
  Option.none)])) .skip)) (.seq (.seq (.region [(.mk (Option.some 7) (.mv (.tmp 0)) Option.none), (.mk (Option.some 8) (.bin .geq (.tmp 7) (.const (.int .u64 65536)))
  Option.none)]) (.cond (.tmp 8) (.seq (.region [(.mk (Option.some 9) (.mv (.tmp 0)) Option.none), (.mk (Option.some 10) (.bin .shr (.tmp 9) (.const (.int .u64 16))) Option.none),
  (.mk (Option.some 0) (.mv (.tmp 10)) Option.none)]) (.region [(.mk (Option.some 11) (.mv (.tmp 2)) Option.none), (.mk (Option.some 12) (.bin .add (.tmp 11) (.const (.int .i64
  16))) Option.none), (.mk (Option.some 2) (.mv (.tmp 12)) Option.none)])) .skip)) (.seq (.seq (.region [(.mk (Option.some 13) (.mv (.tmp 0)) Option.none), (.mk (Option.some 14)
  (.bin .geq (.tmp 13) (.const (.int .u64 256))) Option.none)]) (.cond (.tmp 14) (.seq (.region [(.mk (Option.some 15) (.mv (.tmp 0)) Option.none), (.mk (Option.some 16) (.bin .shr
  (.tmp 15) (.const (.int .u64 8))) Option.none), (.mk (Option.some 0) (.mv (.tmp 16)) Option.none)]) (.region [(.mk (Option.some 17) (.mv (.tmp 2)) Option.none), (.mk (Option.some
  18) (.bin .add (.tmp 17) (.const (.int .i64 8))) Option.none), (.mk (Option.some 2) (.mv (.tmp 18)) Option.none)])) .skip)) (.seq (.region [(.mk (Option.some 19) (.mv (.tmp 2))
  Option.none), (.mk (Option.some 20) (.mv (.tmp 0)) Option.none), (.mk (Option.some 21) (.conv .u8 (.tmp 20)) Option.none), (.mk (Option.some 22) (.byteAt (.const (.string
  (ByteArray.mk #[0, 1, 2, 2, 3, 3, 3, 3, 4, 4, 4, 4, 4, 4, 4, 4, 5, 5, 5, 5, 5, 5, 5, 5, 5, 5, 5, 5, 5, 5, 5, 5, 6, 6, 6, 6, 6, 6, 6, 6, 6, 6, 6, 6, 6, 6, 6, 6, 6, 6, 6, 6, 6, 6,
  6, 6, 6, 6, 6, 6, 6, 6, 6, 6, 7, 7, 7, 7, 7, 7, 7, 7, 7, 7, 7, 7, 7, 7, 7, 7, 7, 7, 7, 7, 7, 7, 7, 7, 7, 7, 7, 7, 7, 7, 7, 7, 7, 7, 7, 7, 7, 7, 7, 7, 7, 7, 7, 7, 7, 7, 7, 7, 7,
  7, 7, 7, 7, 7, 7, 7, 7, 7, 7, 7, 7, 7, 7, 7, 8, 8, 8, 8, 8, 8, 8, 8, 8, 8, 8, 8, 8, 8, 8, 8, 8, 8, 8, 8, 8, 8, 8, 8, 8, 8, 8, 8, 8, 8, 8, 8, 8, 8, 8, 8, 8, 8, 8, 8, 8, 8, 8, 8,
  8, 8, 8, 8, 8, 8, 8, 8, 8, 8, 8, 8, 8, 8, 8, 8, 8, 8, 8, 8, 8, 8, 8, 8, 8, 8, 8, 8, 8, 8, 8, 8, 8, 8, 8, 8, 8, 8, 8, 8, 8, 8, 8, 8, 8, 8, 8, 8, 8, 8, 8, 8, 8, 8, 8, 8, 8, 8, 8,
  8, 8, 8, 8, 8, 8, 8, 8, 8, 8, 8, 8, 8, 8, 8, 8, 8, 8, 8, 8, 8, 8, 8, 8, 8]))) (.tmp 21)) Option.none), (.mk (Option.some 23) (.conv .i64 (.tmp 22)) Option.none), (.mk
  (Option.some 24) (.bin .add (.tmp 19) (.tmp 23)) Option.none), (.mk (Option.some 2) (.mv (.tmp 24)) Option.none)]) .ret))))) 25 [(.tmp 2)])
def a121 : AFn :=
  (.mk (.seq (.region [(.mk (Option.some 2) (.mv (.const (.int .i64 0))) Option.none)]) (.seq (.seq (.region [(.mk (Option.some 3) (.mv (.tmp 0)) Option.none)]) (.cond (.tmp 3) (.seq
  (.region [(.mk (Option.some 2) (.mv (.const (.int .i64 1))) Option.none)]) .ret) .skip)) (.seq (.region [(.mk (Option.some 2) (.mv (.const (.int .i64 0))) Option.none)]) .ret)))
  4 [(.tmp 2)])
def a122 : AFn :=
  (.mk (.seq (.region [(.mk (Option.some 2) (.mv (.const (.bool Bool.false))) Option.none)]) (.seq (.region [(.mk (Option.some 3) (.mv (.tmp 0)) Option.none), (.mk (Option.some 4)
  (.mv (.tmp 0)) Option.none), (.mk (Option.some 5) (.bin .sub (.tmp 4) (.const (.int .i64 1))) Option.none), (.mk (Option.some 6) (.bin .and (.tmp 3) (.tmp 5)) Option.none), (.mk
  (Option.some 7) (.bin .eql (.tmp 6) (.const (.int .i64 0))) Option.none), (.mk (Option.some 2) (.mv (.tmp 7)) Option.none)]) .ret)) 8 [(.tmp 2)])
def a123 : AFn :=
  (.mk (.seq (.region [(.mk (Option.some 2) (.mv (.const (.int .i64 0))) Option.none)]) (.seq (.cond (.const (.bool Bool.false)) (.seq (.region [(.mk (Option.some 3) (.mv (.tmp 0))
  Option.none), (.mk (Option.some 4) (.conv .u32 (.tmp 3)) Option.none), (.mk (Option.some 5) (.call 134 [(.tmp 4)]) Option.none), (.mk (Option.some 2) (.mv (.tmp 5))
  Option.none)]) .ret) .skip) (.seq (.region [(.mk (Option.some 6) (.mv (.tmp 0)) Option.none), (.mk (Option.some 7) (.call 135 [(.tmp 6)]) Option.none), (.mk (Option.some 2) (.mv
  (.tmp 7)) Option.none)]) .ret))) 8 [(.tmp 2)])
def a124 : AFn :=
  (.mk (.seq (.region [(.mk (Option.some 2) (.mv (.const (.int .i32 0))) Option.none), (.mk (Option.some 3) (.mv (.const (.int .i64 0))) Option.none)]) (.seq (.region [(.mk
  (Option.some 13) (.mv (.tmp 0)) Option.none), (.mk (Option.some 14) (.lenStr (.tmp 13)) Option.none), (.mk (Option.some 4) (.mv (.tmp 14)) Option.none)]) (.seq (.seq (.region
  [(.mk (Option.some 15) (.mv (.tmp 4)) Option.none), (.mk (Option.some 16) (.bin .lss (.tmp 15) (.const (.int .i64 1))) Option.none)]) (.cond (.tmp 16) (.seq (.region [(.mk
  (Option.some 2) (.mv (.const (.int .i32 65533))) Option.none), (.mk (Option.some 3) (.mv (.const (.int .i64 0))) Option.none)]) .ret) .skip)) (.seq (.region [(.mk (Option.some
  17) (.mv (.tmp 0)) Option.none), (.mk (Option.some 18) (.byteAt (.tmp 17) (.const (.int .i64 0))) Option.none), (.mk (Option.some 5) (.mv (.tmp 18)) Option.none)]) (.seq (.region
  [(.mk (Option.some 19) (.mv (.tmp 5)) Option.none), (.mk (Option.some 20) (.atArray 256 1 (.global 3) (.tmp 19)) Option.none), (.mk (Option.some 21) (.load 1 Bool.false (.tmp
  20)) Option.none), (.mk (Option.some 6) (.mv (.tmp 21)) Option.none)]) (.seq (.seq (.region [(.mk (Option.some 22) (.mv (.tmp 6)) Option.none), (.mk (Option.some 23) (.bin .geq
  (.tmp 22) (.const (.int .u8 240))) Option.none)]) (.cond (.tmp 23) (.seq (.region [(.mk (Option.some 24) (.mv (.tmp 6)) Option.none), (.mk (Option.some 25) (.conv .i32 (.tmp 24))
  Option.none), (.mk (Option.some 26) (.bin .shl (.tmp 25) (.const (.int .u64 31))) Option.none), (.mk (Option.some 27) (.bin .shr (.tmp 26) (.const (.int .u64 31))) Option.none),
  (.mk (Option.some 7) (.mv (.tmp 27)) Option.none)]) (.seq (.region [(.mk (Option.some 28) (.mv (.tmp 0)) Option.none), (.mk (Option.some 29) (.byteAt (.tmp 28) (.const (.int .i64
  0))) Option.none), (.mk (Option.some 30) (.conv .i32 (.tmp 29)) Option.none), (.mk (Option.some 31) (.mv (.tmp 7)) Option.none), (.mk (Option.some 32) (.bin .andNot (.tmp 30)
  (.tmp 31)) Option.none), (.mk (Option.some 33) (.mv (.tmp 7)) Option.none), (.mk (Option.some 34) (.bin .and (.const (.int .i32 65533)) (.tmp 33)) Option.none), (.mk (Option.some
  35) (.bin .or (.tmp 32) (.tmp 34)) Option.none), (.mk (Option.some 2) (.mv (.tmp 35)) Option.none), (.mk (Option.some 3) (.mv (.const (.int .i64 1))) Option.none)]) .ret))
  .skip)) (.seq (.region [(.mk (Option.some 36) (.mv (.tmp 6)) Option.none), (.mk (Option.some 37) (.bin .and (.tmp 36) (.const (.int .u8 7))) Option.none), (.mk (Option.some 38)
  (.conv .i64 (.tmp 37)) Option.none), (.mk (Option.some 8) (.mv (.tmp 38)) Option.none)]) (.seq (.region [(.mk (Option.some 39) (.mv (.tmp 6)) Option.none), (.mk (Option.some 40)
  (.bin .shr (.tmp 39) (.const (.int .u64 4))) Option.none), (.mk (Option.some 41) (.atArray 16 2 (.global 4) (.tmp 40)) Option.none), (.mk (Option.some 42) (.load 2 Bool.true
  (.tmp 41)) Option.none), (.mk (Option.some 9) (.alloc [(.int .u8 0), (.int .u8 0)]) Option.none), (.mk Option.none (.store 2 (.tmp 9) (.tmp 42)) Option.none)]) (.seq (.seq
  (.region [(.mk (Option.some 43) (.mv (.tmp 4)) Option.none), (.mk (Option.some 44) (.mv (.tmp 8)) Option.none), (.mk (Option.some 45) (.bin .lss (.tmp 43) (.tmp 44))
  Option.none)]) (.cond (.tmp 45) (.seq (.region [(.mk (Option.some 2) (.mv (.const (.int .i32 65533))) Option.none), (.mk (Option.some 3) (.mv (.const (.int .i64 1)))
  Option.none)]) .ret) .skip)) (.seq (.region [(.mk (Option.some 46) (.mv (.tmp 0)) Option.none), (.mk (Option.some 47) (.byteAt (.tmp 46) (.const (.int .i64 1))) Option.none),
  (.mk (Option.some 10) (.mv (.tmp 47)) Option.none)]) (.seq (.seq (.region [(.mk (Option.some 48) (.mv (.tmp 10)) Option.none), (.mk (Option.some 49) (.fieldAddr 0 (.tmp 9))
  Option.none), (.mk (Option.some 50) (.load 1 Bool.false (.tmp 49)) Option.none), (.mk (Option.some 51) (.bin .lss (.tmp 48) (.tmp 50)) Option.none), (.mk (Option.some 52) (.mv
  (.tmp 51)) Option.none), (.mk (Option.some 53) (.fieldAddr 1 (.tmp 9)) (Option.some (52, Bool.false))), (.mk (Option.some 54) (.load 1 Bool.false (.tmp 53)) (Option.some (52,
  Bool.false))), (.mk (Option.some 55) (.mv (.tmp 10)) (Option.some (52, Bool.false))), (.mk (Option.some 56) (.bin .lss (.tmp 54) (.tmp 55)) (Option.some (52, Bool.false))), (.mk
  (Option.some 57) (.pick (.tmp 52) (.const (.bool Bool.true)) (.tmp 56)) Option.none)]) (.cond (.tmp 57) (.seq (.region [(.mk (Option.some 2) (.mv (.const (.int .i32 65533)))
  Option.none), (.mk (Option.some 3) (.mv (.const (.int .i64 1))) Option.none)]) .ret) .skip)) (.seq (.seq (.region [(.mk (Option.some 58) (.mv (.tmp 8)) Option.none), (.mk
  (Option.some 59) (.bin .leq (.tmp 58) (.const (.int .i64 2))) Option.none)]) (.cond (.tmp 59) (.seq (.region [(.mk (Option.some 60) (.mv (.tmp 5)) Option.none), (.mk (Option.some
  61) (.bin .and (.tmp 60) (.const (.int .u8 31))) Option.none), (.mk (Option.some 62) (.conv .i32 (.tmp 61)) Option.none), (.mk (Option.some 63) (.bin .shl (.tmp 62) (.const (.int
  .u64 6))) Option.none), (.mk (Option.some 64) (.mv (.tmp 10)) Option.none), (.mk (Option.some 65) (.bin .and (.tmp 64) (.const (.int .u8 63))) Option.none), (.mk (Option.some 66)
  (.conv .i32 (.tmp 65)) Option.none), (.mk (Option.some 67) (.bin .or (.tmp 63) (.tmp 66)) Option.none), (.mk (Option.some 2) (.mv (.tmp 67)) Option.none), (.mk (Option.some 3)
  (.mv (.const (.int .i64 2))) Option.none)]) .ret) .skip)) (.seq (.region [(.mk (Option.some 68) (.mv (.tmp 0)) Option.none), (.mk (Option.some 69) (.byteAt (.tmp 68) (.const
  (.int .i64 2))) Option.none), (.mk (Option.some 11) (.mv (.tmp 69)) Option.none)]) (.seq (.seq (.region [(.mk (Option.some 70) (.mv (.tmp 11)) Option.none), (.mk (Option.some 71)
  (.bin .lss (.tmp 70) (.const (.int .u8 128))) Option.none), (.mk (Option.some 72) (.mv (.tmp 71)) Option.none), (.mk (Option.some 73) (.mv (.tmp 11)) (Option.some (72,
  Bool.false))), (.mk (Option.some 74) (.bin .lss (.const (.int .u8 191)) (.tmp 73)) (Option.some (72, Bool.false))), (.mk (Option.some 75) (.pick (.tmp 72) (.const (.bool
  Bool.true)) (.tmp 74)) Option.none)]) (.cond (.tmp 75) (.seq (.region [(.mk (Option.some 2) (.mv (.const (.int .i32 65533))) Option.none), (.mk (Option.some 3) (.mv (.const (.int
  .i64 1))) Option.none)]) .ret) .skip)) (.seq (.seq (.region [(.mk (Option.some 76) (.mv (.tmp 8)) Option.none), (.mk (Option.some 77) (.bin .leq (.tmp 76) (.const (.int .i64 3)))
  Option.none)]) (.cond (.tmp 77) (.seq (.region [(.mk (Option.some 78) (.mv (.tmp 5)) Option.none), (.mk (Option.some 79) (.bin .and (.tmp 78) (.const (.int .u8 15)))
  Option.none), (.mk (Option.some 80) (.conv .i32 (.tmp 79)) Option.none), (.mk (Option.some 81) (.bin .shl (.tmp 80) (.const (.int .u64 12))) Option.none), (.mk (Option.some 82)
  (.mv (.tmp 10)) Option.none), (.mk (Option.some 83) (.bin .and (.tmp 82) (.const (.int .u8 63))) Option.none), (.mk (Option.some 84) (.conv .i32 (.tmp 83)) Option.none), (.mk
  (Option.some 85) (.bin .shl (.tmp 84) (.const (.int .u64 6))) Option.none), (.mk (Option.some 86) (.bin .or (.tmp 81) (.tmp 85)) Option.none), (.mk (Option.some 87) (.mv (.tmp
  11)) Option.none), (.mk (Option.some 88) (.bin .and (.tmp 87) (.const (.int .u8 63))) Option.none), (.mk (Option.some 89) (.conv .i32 (.tmp 88)) Option.none), (.mk (Option.some
  90) (.bin .or (.tmp 86) (.tmp 89)) Option.none), (.mk (Option.some 2) (.mv (.tmp 90)) Option.none), (.mk (Option.some 3) (.mv (.const (.int .i64 3))) Option.none)]) .ret) .skip))
  (.seq (.region [(.mk (Option.some 91) (.mv (.tmp 0)) Option.none), (.mk (Option.some 92) (.byteAt (.tmp 91) (.const (.int .i64 3))) Option.none), (.mk (Option.some 12) (.mv (.tmp
  92)) Option.none)]) (.seq (.seq (.region [(.mk (Option.some 93) (.mv (.tmp 12)) Option.none), (.mk (Option.some 94) (.bin .lss (.tmp 93) (.const (.int .u8 128))) Option.none),
  (.mk (Option.some 95) (.mv (.tmp 94)) Option.none), (.mk (Option.some 96) (.mv (.tmp 12)) (Option.some (95, Bool.false))), (.mk (Option.some 97) (.bin .lss (.const (.int .u8
  191)) (.tmp 96)) (Option.some (95, Bool.false))), (.mk (Option.some 98) (.pick (.tmp 95) (.const (.bool Bool.true)) (.tmp 97)) Option.none)]) (.cond (.tmp 98) (.seq (.region
  [(.mk (Option.some 2) (.mv (.const (.int .i32 65533))) Option.none), (.mk (Option.some 3) (.mv (.const (.int .i64 1))) Option.none)]) .ret) .skip)) (.seq (.region [(.mk
  (Option.some 99) (.mv (.tmp 5)) Option.none), (.mk (Option.some 100) (.bin .and (.tmp 99) (.const (.int .u8 7))) Option.none), (.mk (Option.some 101) (.conv .i32 (.tmp 100))
  Option.none), (.mk (Option.some 102) (.bin .shl (.tmp 101) (.const (.int .u64 18))) Option.none), (.mk (Option.some 103) (.mv (.tmp 10)) Option.none), (.mk (Option.some 104)
  (.bin .and (.tmp 103) (.const (.int .u8 63))) Option.none), (.mk (Option.some 105) (.conv .i32 (.tmp 104)) Option.none), (.mk (Option.some 106) (.bin .shl (.tmp 105) (.const
  (.int .u64 12))) Option.none), (.mk (Option.some 107) (.bin .or (.tmp 102) (.tmp 106)) Option.none), (.mk (Option.some 108) (.mv (.tmp 11)) Option.none), (.mk (Option.some 109)
  (.bin .and (.tmp 108) (.const (.int .u8 63))) Option.none), (.mk (Option.some 110) (.conv .i32 (.tmp 109)) Option.none), (.mk (Option.some 111) (.bin .shl (.tmp 110) (.const
  (.int .u64 6))) Option.none), (.mk (Option.some 112) (.bin .or (.tmp 107) (.tmp 111)) Option.none), (.mk (Option.some 113) (.mv (.tmp 12)) Option.none), (.mk (Option.some 114)
  (.bin .and (.tmp 113) (.const (.int .u8 63))) Option.none), (.mk (Option.some 115) (.conv .i32 (.tmp 114)) Option.none), (.mk (Option.some 116) (.bin .or (.tmp 112) (.tmp 115))
  Option.none), (.mk (Option.some 2) (.mv (.tmp 116)) Option.none), (.mk (Option.some 3) (.mv (.const (.int .i64 4))) Option.none)]) .ret)))))))))))))))))) 117 [(.tmp 2), (.tmp
  3)])
def a125 : AFn :=
  (.mk (.seq (.region [(.mk (Option.some 4) (.mv (.const (.int .i64 0))) Option.none)]) (.seq (.region [(.mk (Option.some 5) (.mv (.tmp 0)) Option.none), (.mk (Option.some 6) (.mv
  (.tmp 1)) Option.none), (.mk (Option.some 7) (.call 136 [(.tmp 5), (.tmp 6)]) Option.none), (.mk (Option.some 4) (.mv (.tmp 7)) Option.none)]) .ret)) 8 [(.tmp 4)])
def a127 : AFn :=
  (.mk (.seq (.region [(.mk (Option.some 2) (.mv (.const (.int .i64 0))) Option.none)]) (.seq (.region [(.mk (Option.some 3) (.mv (.tmp 0)) Option.none), (.mk (Option.some 4) (.bin
  .add (.tmp 3) (.const (.int .i64 16))) Option.none), (.mk (Option.some 5) (.bin .quo (.tmp 4) (.const (.int .i64 8))) Option.none), (.mk (Option.some 2) (.mv (.tmp 5))
  Option.none)]) .ret)) 6 [(.tmp 2)])
def a128 : AFn :=
  (.mk (.seq (.region [(.mk (Option.some 4) (.mv (.const (.int .i64 0))) Option.none)]) (.seq (.region [(.mk (Option.some 12) (.mv (.tmp 1)) Option.none), (.mk (Option.some 13)
  (.call 137 [(.tmp 12)]) Option.none), (.mk (Option.some 11) (.mv (.tmp 13)) Option.none), (.mk (Option.some 14) (.extract (.tmp 11) 0) Option.none), (.mk (Option.some 15)
  (.extract (.tmp 11) 1) Option.none), (.mk (Option.some 5) (.mv (.tmp 14)) Option.none), (.mk (Option.some 6) (.mv (.tmp 15)) Option.none)]) (.seq (.region [(.mk (Option.some 16)
  (.mv (.tmp 1)) Option.none), (.mk (Option.some 17) (.lenStr (.tmp 16)) Option.none), (.mk (Option.some 7) (.mv (.tmp 17)) Option.none)]) (.seq (.region [(.mk (Option.some 8) (.mv
  (.const (.int .u32 0))) Option.none)]) (.seq (.seq (.region [(.mk (Option.some 9) (.mv (.const (.int .i64 0))) Option.none)]) (.block 0 (.loop (.seq (.seq (.region [(.mk
  (Option.some 18) (.mv (.tmp 9)) Option.none), (.mk (Option.some 19) (.mv (.tmp 7)) Option.none), (.mk (Option.some 20) (.bin .lss (.tmp 18) (.tmp 19)) Option.none)]) (.cond (.tmp
  20) .skip (.exit 0))) (.seq (.block 1 (.region [(.mk (Option.some 23) (.mv (.tmp 8)) Option.none), (.mk (Option.some 24) (.bin .mul (.tmp 23) (.const (.int .u32 16777619)))
  Option.none), (.mk (Option.some 25) (.mv (.tmp 0)) Option.none), (.mk (Option.some 26) (.mv (.tmp 9)) Option.none), (.mk (Option.some 27) (.byteAt (.tmp 25) (.tmp 26))
  Option.none), (.mk (Option.some 28) (.conv .u32 (.tmp 27)) Option.none), (.mk (Option.some 29) (.bin .add (.tmp 24) (.tmp 28)) Option.none), (.mk (Option.some 8) (.mv (.tmp 29))
  Option.none)])) (.region [(.mk (Option.some 21) (.mv (.tmp 9)) Option.none), (.mk (Option.some 22) (.bin .add (.tmp 21) (.const (.int .i64 1))) Option.none), (.mk (Option.some 9)
  (.mv (.tmp 22)) Option.none)])))))) (.seq (.seq (.region [(.mk (Option.some 30) (.mv (.tmp 8)) Option.none), (.mk (Option.some 31) (.mv (.tmp 5)) Option.none), (.mk (Option.some
  32) (.bin .eql (.tmp 30) (.tmp 31)) Option.none), (.mk (Option.some 33) (.mv (.tmp 32)) Option.none), (.mk (Option.some 34) (.mv (.tmp 0)) (Option.some (33, Bool.true))), (.mk
  (Option.some 35) (.mv (.tmp 7)) (Option.some (33, Bool.true))), (.mk (Option.some 36) (.cutStr (.tmp 34) Option.none (Option.some (.tmp 35))) (Option.some (33, Bool.true))), (.mk
  (Option.some 37) (.mv (.tmp 1)) (Option.some (33, Bool.true))), (.mk (Option.some 38) (.bin .eql (.tmp 36) (.tmp 37)) (Option.some (33, Bool.true))), (.mk (Option.some 39) (.pick
  (.tmp 33) (.tmp 38) (.const (.bool Bool.false))) Option.none)]) (.cond (.tmp 39) (.seq (.region [(.mk (Option.some 4) (.mv (.const (.int .i64 0))) Option.none)]) .ret) .skip))
  (.seq (.seq (.region [(.mk (Option.some 40) (.mv (.tmp 7)) Option.none), (.mk (Option.some 10) (.mv (.tmp 40)) Option.none)]) (.block 2 (.loop (.seq (.seq (.region [(.mk
  (Option.some 41) (.mv (.tmp 10)) Option.none), (.mk (Option.some 42) (.mv (.tmp 0)) Option.none), (.mk (Option.some 43) (.lenStr (.tmp 42)) Option.none), (.mk (Option.some 44)
  (.bin .lss (.tmp 41) (.tmp 43)) Option.none)]) (.cond (.tmp 44) .skip (.exit 2))) (.block 3 (.seq (.region [(.mk (Option.some 45) (.mv (.tmp 8)) Option.none), (.mk (Option.some
  46) (.bin .mul (.tmp 45) (.const (.int .u32 16777619))) Option.none), (.mk (Option.some 8) (.mv (.tmp 46)) Option.none)]) (.seq (.region [(.mk (Option.some 47) (.mv (.tmp 8))
  Option.none), (.mk (Option.some 48) (.mv (.tmp 0)) Option.none), (.mk (Option.some 49) (.mv (.tmp 10)) Option.none), (.mk (Option.some 50) (.byteAt (.tmp 48) (.tmp 49))
  Option.none), (.mk (Option.some 51) (.conv .u32 (.tmp 50)) Option.none), (.mk (Option.some 52) (.bin .add (.tmp 47) (.tmp 51)) Option.none), (.mk (Option.some 8) (.mv (.tmp 52))
  Option.none)]) (.seq (.region [(.mk (Option.some 53) (.mv (.tmp 8)) Option.none), (.mk (Option.some 54) (.mv (.tmp 6)) Option.none), (.mk (Option.some 55) (.mv (.tmp 0))
  Option.none), (.mk (Option.some 56) (.mv (.tmp 10)) Option.none), (.mk (Option.some 57) (.mv (.tmp 7)) Option.none), (.mk (Option.some 58) (.bin .sub (.tmp 56) (.tmp 57))
  Option.none), (.mk (Option.some 59) (.byteAt (.tmp 55) (.tmp 58)) Option.none), (.mk (Option.some 60) (.conv .u32 (.tmp 59)) Option.none), (.mk (Option.some 61) (.bin .mul (.tmp
  54) (.tmp 60)) Option.none), (.mk (Option.some 62) (.bin .sub (.tmp 53) (.tmp 61)) Option.none), (.mk (Option.some 8) (.mv (.tmp 62)) Option.none)]) (.seq (.region [(.mk
  (Option.some 63) (.mv (.tmp 10)) Option.none), (.mk (Option.some 64) (.bin .add (.tmp 63) (.const (.int .i64 1))) Option.none), (.mk (Option.some 10) (.mv (.tmp 64))
  Option.none)]) (.seq (.region [(.mk (Option.some 65) (.mv (.tmp 8)) Option.none), (.mk (Option.some 66) (.mv (.tmp 5)) Option.none), (.mk (Option.some 67) (.bin .eql (.tmp 65)
  (.tmp 66)) Option.none), (.mk (Option.some 68) (.mv (.tmp 67)) Option.none), (.mk (Option.some 69) (.mv (.tmp 0)) (Option.some (68, Bool.true))), (.mk (Option.some 70) (.mv (.tmp
  10)) (Option.some (68, Bool.true))), (.mk (Option.some 71) (.mv (.tmp 7)) (Option.some (68, Bool.true))), (.mk (Option.some 72) (.bin .sub (.tmp 70) (.tmp 71)) (Option.some (68,
  Bool.true))), (.mk (Option.some 73) (.mv (.tmp 10)) (Option.some (68, Bool.true))), (.mk (Option.some 74) (.cutStr (.tmp 69) (Option.some (.tmp 72)) (Option.some (.tmp 73)))
  (Option.some (68, Bool.true))), (.mk (Option.some 75) (.mv (.tmp 1)) (Option.some (68, Bool.true))), (.mk (Option.some 76) (.bin .eql (.tmp 74) (.tmp 75)) (Option.some (68,
  Bool.true))), (.mk (Option.some 77) (.pick (.tmp 68) (.tmp 76) (.const (.bool Bool.false))) Option.none)]) (.cond (.tmp 77) (.seq (.region [(.mk (Option.some 78) (.mv (.tmp 10))
  Option.none), (.mk (Option.some 79) (.mv (.tmp 7)) Option.none), (.mk (Option.some 80) (.bin .sub (.tmp 78) (.tmp 79)) Option.none), (.mk (Option.some 4) (.mv (.tmp 80))
  Option.none)]) .ret) .skip))))))))))) (.seq (.region [(.mk (Option.some 4) (.mv (.const (.int .i64 (-1)))) Option.none)]) .ret)))))))) 81 [(.tmp 4)])
def a129 : AFn :=
  (.mk (.seq (.region [(.mk (Option.some 6) (.mv (.const (.int .u64 0))) Option.none), (.mk (Option.some 7) (.mv (.const .nilIface)) Option.none)]) (.seq (.seq (.region [(.mk
  (Option.some 18) (.mv (.tmp 0)) Option.none), (.mk (Option.some 19) (.bin .eql (.tmp 18) (.const (.string (ByteArray.mk #[])))) Option.none)]) (.cond (.tmp 19) (.seq (.region
  [(.mk (Option.some 20) (.mkIface 186 (.const (.int .i64 2))) Option.none), (.mk (Option.some 6) (.mv (.const (.int .u64 0))) Option.none), (.mk (Option.some 7) (.mv (.tmp 20))
  Option.none)]) .ret) .skip)) (.seq (.region [(.mk (Option.some 21) (.mv (.tmp 1)) Option.none), (.mk (Option.some 22) (.bin .eql (.tmp 21) (.const (.int .i64 0))) Option.none),
  (.mk (Option.some 8) (.mv (.tmp 22)) Option.none)]) (.seq (.region [(.mk (Option.some 23) (.mv (.tmp 0)) Option.none), (.mk (Option.some 9) (.mv (.tmp 23)) Option.none)]) (.seq
  (.block 0 (.seq (.region [(.mk (Option.some 26) (.mv (.tmp 1)) Option.none), (.mk (Option.some 27) (.bin .leq (.const (.int .i64 2)) (.tmp 26)) Option.none), (.mk (Option.some
  28) (.mv (.tmp 27)) Option.none), (.mk (Option.some 29) (.mv (.tmp 1)) (Option.some (28, Bool.true))), (.mk (Option.some 30) (.bin .leq (.tmp 29) (.const (.int .i64 36)))
  (Option.some (28, Bool.true))), (.mk (Option.some 31) (.pick (.tmp 28) (.tmp 30) (.const (.bool Bool.false))) Option.none), (.mk (Option.some 25) (.mv (.tmp 31)) Option.none)])
  (.cond (.tmp 25) .skip (.seq (.region [(.mk (Option.some 33) (.mv (.tmp 1)) Option.none), (.mk (Option.some 34) (.bin .eql (.tmp 33) (.const (.int .i64 0))) Option.none), (.mk
  (Option.some 32) (.mv (.tmp 34)) Option.none)]) (.cond (.tmp 32) (.seq (.region [(.mk (Option.some 1) (.mv (.const (.int .i64 10))) Option.none)]) (.seq (.region [(.mk
  (Option.some 35) (.mv (.tmp 0)) Option.none), (.mk (Option.some 36) (.byteAt (.tmp 35) (.const (.int .i64 0))) Option.none), (.mk (Option.some 37) (.bin .eql (.tmp 36) (.const
  (.int .u8 48))) Option.none)]) (.cond (.tmp 37) (.block 1 (.seq (.region [(.mk (Option.some 41) (.mv (.tmp 0)) Option.none), (.mk (Option.some 42) (.lenStr (.tmp 41))
  Option.none), (.mk (Option.some 43) (.bin .geq (.tmp 42) (.const (.int .i64 3))) Option.none), (.mk (Option.some 44) (.mv (.tmp 43)) Option.none), (.mk (Option.some 45) (.mv
  (.tmp 0)) (Option.some (44, Bool.true))), (.mk (Option.some 46) (.byteAt (.tmp 45) (.const (.int .i64 1))) (Option.some (44, Bool.true))), (.mk (Option.some 47) (.call 138 [(.tmp
  46)]) (Option.some (44, Bool.true))), (.mk (Option.some 48) (.bin .eql (.tmp 47) (.const (.int .u8 98))) (Option.some (44, Bool.true))), (.mk (Option.some 49) (.pick (.tmp 44)
  (.tmp 48) (.const (.bool Bool.false))) Option.none), (.mk (Option.some 40) (.mv (.tmp 49)) Option.none)]) (.cond (.tmp 40) (.seq (.region [(.mk (Option.some 1) (.mv (.const (.int
  .i64 2))) Option.none)]) (.region [(.mk (Option.some 50) (.mv (.tmp 0)) Option.none), (.mk (Option.some 51) (.cutStr (.tmp 50) (Option.some (.const (.int .i64 2))) Option.none)
  Option.none), (.mk (Option.some 0) (.mv (.tmp 51)) Option.none)])) (.seq (.region [(.mk (Option.some 53) (.mv (.tmp 0)) Option.none), (.mk (Option.some 54) (.lenStr (.tmp 53))
  Option.none), (.mk (Option.some 55) (.bin .geq (.tmp 54) (.const (.int .i64 3))) Option.none), (.mk (Option.some 56) (.mv (.tmp 55)) Option.none), (.mk (Option.some 57) (.mv
  (.tmp 0)) (Option.some (56, Bool.true))), (.mk (Option.some 58) (.byteAt (.tmp 57) (.const (.int .i64 1))) (Option.some (56, Bool.true))), (.mk (Option.some 59) (.call 138 [(.tmp
  58)]) (Option.some (56, Bool.true))), (.mk (Option.some 60) (.bin .eql (.tmp 59) (.const (.int .u8 111))) (Option.some (56, Bool.true))), (.mk (Option.some 61) (.pick (.tmp 56)
  (.tmp 60) (.const (.bool Bool.false))) Option.none), (.mk (Option.some 52) (.mv (.tmp 61)) Option.none)]) (.cond (.tmp 52) (.seq (.region [(.mk (Option.some 1) (.mv (.const (.int
  .i64 8))) Option.none)]) (.region [(.mk (Option.some 62) (.mv (.tmp 0)) Option.none), (.mk (Option.some 63) (.cutStr (.tmp 62) (Option.some (.const (.int .i64 2))) Option.none)
  Option.none), (.mk (Option.some 0) (.mv (.tmp 63)) Option.none)])) (.seq (.region [(.mk (Option.some 65) (.mv (.tmp 0)) Option.none), (.mk (Option.some 66) (.lenStr (.tmp 65))
  Option.none), (.mk (Option.some 67) (.bin .geq (.tmp 66) (.const (.int .i64 3))) Option.none), (.mk (Option.some 68) (.mv (.tmp 67)) Option.none), (.mk (Option.some 69) (.mv
  (.tmp 0)) (Option.some (68, Bool.true))), (.mk (Option.some 70) (.byteAt (.tmp 69) (.const (.int .i64 1))) (Option.some (68, Bool.true))), (.mk (Option.some 71) (.call 138 [(.tmp
  70)]) (Option.some (68, Bool.true))), (.mk (Option.some 72) (.bin .eql (.tmp 71) (.const (.int .u8 120))) (Option.some (68, Bool.true))), (.mk (Option.some 73) (.pick (.tmp 68)
  (.tmp 72) (.const (.bool Bool.false))) Option.none), (.mk (Option.some 64) (.mv (.tmp 73)) Option.none)]) (.cond (.tmp 64) (.seq (.region [(.mk (Option.some 1) (.mv (.const (.int
  .i64 16))) Option.none)]) (.region [(.mk (Option.some 74) (.mv (.tmp 0)) Option.none), (.mk (Option.some 75) (.cutStr (.tmp 74) (Option.some (.const (.int .i64 2))) Option.none)
  Option.none), (.mk (Option.some 0) (.mv (.tmp 75)) Option.none)])) (.seq (.region [(.mk (Option.some 1) (.mv (.const (.int .i64 8))) Option.none)]) (.region [(.mk (Option.some
  38) (.mv (.tmp 0)) Option.none), (.mk (Option.some 39) (.cutStr (.tmp 38) (Option.some (.const (.int .i64 1))) Option.none) Option.none), (.mk (Option.some 0) (.mv (.tmp 39))
  Option.none)]))))))))) .skip))) (.seq (.region [(.mk (Option.some 24) (.mkIface 186 (.const (.int .i64 3))) Option.none), (.mk (Option.some 6) (.mv (.const (.int .u64 0)))
  Option.none), (.mk (Option.some 7) (.mv (.tmp 24)) Option.none)]) .ret)))))) (.seq (.seq (.region [(.mk (Option.some 76) (.mv (.tmp 2)) Option.none), (.mk (Option.some 77) (.bin
  .eql (.tmp 76) (.const (.int .i64 0))) Option.none)]) (.cond (.tmp 77) (.region [(.mk (Option.some 2) (.mv (.const (.int .i64 64))) Option.none)]) (.seq (.region [(.mk
  (Option.some 78) (.mv (.tmp 2)) Option.none), (.mk (Option.some 79) (.bin .lss (.tmp 78) (.const (.int .i64 0))) Option.none), (.mk (Option.some 80) (.mv (.tmp 79)) Option.none),
  (.mk (Option.some 81) (.mv (.tmp 2)) (Option.some (80, Bool.false))), (.mk (Option.some 82) (.bin .gtr (.tmp 81) (.const (.int .i64 64))) (Option.some (80, Bool.false))), (.mk
  (Option.some 83) (.pick (.tmp 80) (.const (.bool Bool.true)) (.tmp 82)) Option.none)]) (.cond (.tmp 83) (.seq (.region [(.mk (Option.some 84) (.mkIface 186 (.const (.int .i64
  4))) Option.none), (.mk (Option.some 6) (.mv (.const (.int .u64 0))) Option.none), (.mk (Option.some 7) (.mv (.tmp 84)) Option.none)]) .ret) .skip)))) (.seq (.region [(.mk
  (Option.some 10) (.mv (.const (.int .u64 0))) Option.none)]) (.seq (.seq (.region [(.mk (Option.some 85) (.mv (.tmp 1)) Option.none)]) (.block 2 (.seq (.region [(.mk (Option.some
  91) (.bin .eql (.tmp 85) (.const (.int .i64 10))) Option.none), (.mk (Option.some 90) (.mv (.tmp 91)) Option.none)]) (.cond (.tmp 90) (.region [(.mk (Option.some 10) (.mv (.const
  (.int .u64 1844674407370955162))) Option.none)]) (.seq (.region [(.mk (Option.some 93) (.bin .eql (.tmp 85) (.const (.int .i64 16))) Option.none), (.mk (Option.some 92) (.mv
  (.tmp 93)) Option.none)]) (.cond (.tmp 92) (.region [(.mk (Option.some 10) (.mv (.const (.int .u64 1152921504606846976))) Option.none)]) (.region [(.mk (Option.some 86) (.mv
  (.tmp 1)) Option.none), (.mk (Option.some 87) (.conv .u64 (.tmp 86)) Option.none), (.mk (Option.some 88) (.bin .quo (.const (.int .u64 18446744073709551615)) (.tmp 87))
  Option.none), (.mk (Option.some 89) (.bin .add (.tmp 88) (.const (.int .u64 1))) Option.none), (.mk (Option.some 10) (.mv (.tmp 89)) Option.none)]))))))) (.seq (.region [(.mk
  (Option.some 94) (.mv (.tmp 2)) Option.none), (.mk (Option.some 95) (.conv .u64 (.tmp 94)) Option.none), (.mk (Option.some 96) (.bin .shl (.const (.int .u64 1)) (.tmp 95))
  Option.none), (.mk (Option.some 97) (.bin .sub (.tmp 96) (.const (.int .u64 1))) Option.none), (.mk (Option.some 11) (.mv (.tmp 97)) Option.none)]) (.seq (.region [(.mk
  (Option.some 12) (.mv (.const (.bool Bool.false))) Option.none)]) (.seq (.region [(.mk (Option.some 13) (.mv (.const (.int .u64 0))) Option.none)]) (.seq (.seq (.region [(.mk
  (Option.some 98) (.mv (.tmp 0)) Option.none), (.mk (Option.some 99) (.bytesOf (.tmp 98)) Option.none), (.mk (Option.some 100) (.len (.tmp 99)) Option.none), (.mk (Option.some
  101) (.mv (.const (.int .i64 0))) Option.none)]) (.block 3 (.loop (.seq (.region [(.mk (Option.some 102) (.bin .lss (.tmp 101) (.tmp 100)) Option.none)]) (.seq (.cond (.tmp 102)
  .skip (.exit 3)) (.seq (.block 4 (.seq (.region [(.mk (Option.some 103) (.atSlice 1 (.tmp 99) (.tmp 101)) Option.none), (.mk (Option.some 104) (.load 1 Bool.false (.tmp 103))
  Option.none), (.mk (Option.some 15) (.mv (.tmp 104)) Option.none)]) (.seq (.region [(.mk (Option.some 16) (.mv (.const (.int .u8 0))) Option.none)]) (.seq (.block 5 (.seq
  (.region [(.mk (Option.some 107) (.mv (.tmp 15)) Option.none), (.mk (Option.some 108) (.bin .eql (.tmp 107) (.const (.int .u8 95))) Option.none), (.mk (Option.some 109) (.mv
  (.tmp 108)) Option.none), (.mk (Option.some 110) (.mv (.tmp 8)) (Option.some (109, Bool.true))), (.mk (Option.some 111) (.pick (.tmp 109) (.tmp 110) (.const (.bool Bool.false)))
  Option.none), (.mk (Option.some 106) (.mv (.tmp 111)) Option.none)]) (.cond (.tmp 106) (.seq (.region [(.mk (Option.some 12) (.mv (.const (.bool Bool.true))) Option.none)])
  (.exit 4)) (.seq (.region [(.mk (Option.some 113) (.mv (.tmp 15)) Option.none), (.mk (Option.some 114) (.bin .leq (.const (.int .u8 48)) (.tmp 113)) Option.none), (.mk
  (Option.some 115) (.mv (.tmp 114)) Option.none), (.mk (Option.some 116) (.mv (.tmp 15)) (Option.some (115, Bool.true))), (.mk (Option.some 117) (.bin .leq (.tmp 116) (.const
  (.int .u8 57))) (Option.some (115, Bool.true))), (.mk (Option.some 118) (.pick (.tmp 115) (.tmp 117) (.const (.bool Bool.false))) Option.none), (.mk (Option.some 112) (.mv (.tmp
  118)) Option.none)]) (.cond (.tmp 112) (.region [(.mk (Option.some 119) (.mv (.tmp 15)) Option.none), (.mk (Option.some 120) (.bin .sub (.tmp 119) (.const (.int .u8 48)))
  Option.none), (.mk (Option.some 16) (.mv (.tmp 120)) Option.none)]) (.seq (.region [(.mk (Option.some 122) (.mv (.tmp 15)) Option.none), (.mk (Option.some 123) (.call 138 [(.tmp
  122)]) Option.none), (.mk (Option.some 124) (.bin .leq (.const (.int .u8 97)) (.tmp 123)) Option.none), (.mk (Option.some 125) (.mv (.tmp 124)) Option.none), (.mk (Option.some
  126) (.mv (.tmp 15)) (Option.some (125, Bool.true))), (.mk (Option.some 127) (.call 138 [(.tmp 126)]) (Option.some (125, Bool.true))), (.mk (Option.some 128) (.bin .leq (.tmp
  127) (.const (.int .u8 122))) (Option.some (125, Bool.true))), (.mk (Option.some 129) (.pick (.tmp 125) (.tmp 128) (.const (.bool Bool.false))) Option.none), (.mk (Option.some
  121) (.mv (.tmp 129)) Option.none)]) (.cond (.tmp 121) (.region [(.mk (Option.some 130) (.mv (.tmp 15)) Option.none), (.mk (Option.some 131) (.call 138 [(.tmp 130)])
  Option.none), (.mk (Option.some 132) (.bin .sub (.tmp 131) (.const (.int .u8 97))) Option.none), (.mk (Option.some 133) (.bin .add (.tmp 132) (.const (.int .u8 10)))
  Option.none), (.mk (Option.some 16) (.mv (.tmp 133)) Option.none)]) (.seq (.region [(.mk (Option.some 105) (.mkIface 186 (.const (.int .i64 2))) Option.none), (.mk (Option.some
  6) (.mv (.const (.int .u64 0))) Option.none), (.mk (Option.some 7) (.mv (.tmp 105)) Option.none)]) .ret)))))))) (.seq (.seq (.region [(.mk (Option.some 134) (.mv (.tmp 16))
  Option.none), (.mk (Option.some 135) (.mv (.tmp 1)) Option.none), (.mk (Option.some 136) (.conv .u8 (.tmp 135)) Option.none), (.mk (Option.some 137) (.bin .geq (.tmp 134) (.tmp
  136)) Option.none)]) (.cond (.tmp 137) (.seq (.region [(.mk (Option.some 138) (.mkIface 186 (.const (.int .i64 2))) Option.none), (.mk (Option.some 6) (.mv (.const (.int .u64
  0))) Option.none), (.mk (Option.some 7) (.mv (.tmp 138)) Option.none)]) .ret) .skip)) (.seq (.seq (.region [(.mk (Option.some 139) (.mv (.tmp 13)) Option.none), (.mk (Option.some
  140) (.mv (.tmp 10)) Option.none), (.mk (Option.some 141) (.bin .geq (.tmp 139) (.tmp 140)) Option.none)]) (.cond (.tmp 141) (.seq (.region [(.mk (Option.some 142) (.mv (.tmp
  11)) Option.none), (.mk (Option.some 143) (.mkIface 186 (.const (.int .i64 1))) Option.none), (.mk (Option.some 6) (.mv (.tmp 142)) Option.none), (.mk (Option.some 7) (.mv (.tmp
  143)) Option.none)]) .ret) .skip)) (.seq (.region [(.mk (Option.some 144) (.mv (.tmp 13)) Option.none), (.mk (Option.some 145) (.mv (.tmp 1)) Option.none), (.mk (Option.some 146)
  (.conv .u64 (.tmp 145)) Option.none), (.mk (Option.some 147) (.bin .mul (.tmp 144) (.tmp 146)) Option.none), (.mk (Option.some 13) (.mv (.tmp 147)) Option.none)]) (.seq (.region
  [(.mk (Option.some 148) (.mv (.tmp 13)) Option.none), (.mk (Option.some 149) (.mv (.tmp 16)) Option.none), (.mk (Option.some 150) (.conv .u64 (.tmp 149)) Option.none), (.mk
  (Option.some 151) (.bin .add (.tmp 148) (.tmp 150)) Option.none), (.mk (Option.some 17) (.mv (.tmp 151)) Option.none)]) (.seq (.seq (.region [(.mk (Option.some 152) (.mv (.tmp
  17)) Option.none), (.mk (Option.some 153) (.mv (.tmp 13)) Option.none), (.mk (Option.some 154) (.bin .lss (.tmp 152) (.tmp 153)) Option.none), (.mk (Option.some 155) (.mv (.tmp
  154)) Option.none), (.mk (Option.some 156) (.mv (.tmp 17)) (Option.some (155, Bool.false))), (.mk (Option.some 157) (.mv (.tmp 11)) (Option.some (155, Bool.false))), (.mk
  (Option.some 158) (.bin .gtr (.tmp 156) (.tmp 157)) (Option.some (155, Bool.false))), (.mk (Option.some 159) (.pick (.tmp 155) (.const (.bool Bool.true)) (.tmp 158))
  Option.none)]) (.cond (.tmp 159) (.seq (.region [(.mk (Option.some 160) (.mv (.tmp 11)) Option.none), (.mk (Option.some 161) (.mkIface 186 (.const (.int .i64 1))) Option.none),
  (.mk (Option.some 6) (.mv (.tmp 160)) Option.none), (.mk (Option.some 7) (.mv (.tmp 161)) Option.none)]) .ret) .skip)) (.region [(.mk (Option.some 162) (.mv (.tmp 17))
  Option.none), (.mk (Option.some 13) (.mv (.tmp 162)) Option.none)])))))))))) (.region [(.mk (Option.some 163) (.bin .add (.tmp 101) (.const (.int .i64 1))) Option.none), (.mk
  (Option.some 101) (.mv (.tmp 163)) Option.none)]))))))) (.seq (.seq (.region [(.mk (Option.some 164) (.mv (.tmp 12)) Option.none), (.mk (Option.some 165) (.mv (.tmp 164))
  Option.none), (.mk (Option.some 166) (.mv (.tmp 9)) (Option.some (165, Bool.true))), (.mk (Option.some 167) (.call 139 [(.tmp 166)]) (Option.some (165, Bool.true))), (.mk
  (Option.some 168) (.un .not (.tmp 167)) (Option.some (165, Bool.true))), (.mk (Option.some 169) (.pick (.tmp 165) (.tmp 168) (.const (.bool Bool.false))) Option.none)]) (.cond
  (.tmp 169) (.seq (.region [(.mk (Option.some 170) (.mkIface 186 (.const (.int .i64 2))) Option.none), (.mk (Option.some 6) (.mv (.const (.int .u64 0))) Option.none), (.mk
  (Option.some 7) (.mv (.tmp 170)) Option.none)]) .ret) .skip)) (.seq (.region [(.mk (Option.some 171) (.mv (.tmp 13)) Option.none), (.mk (Option.some 6) (.mv (.tmp 171))
  Option.none), (.mk (Option.some 7) (.mv (.const .nilIface)) Option.none)]) .ret)))))))))))))) 172 [(.tmp 6), (.tmp 7)])
def a130 : AFn :=
  (.mk (.seq (.region [(.mk (Option.some 4) (.mv (.const (.pointer Option.none))) Option.none)]) (.seq (.draws [((.mk (Option.some 5) (.mv (.tmp 0)) Option.none), (0, 5)), ((.mk
  (Option.some 6) (.mv (.tmp 1)) Option.none), (0, 2)), ((.mk (Option.some 7) (.call 140 [(.tmp 6)]) Option.none), (0, 5)), ((.mk (Option.some 8) (.load 1 Bool.false (.global 5))
  Option.none), (0, 5)), ((.mk (Option.some 9) (.build [(.str []), (.str []), .nilIface] [(0, (1, (.tmp 5))), (1, (1, (.tmp 7))), (2, (1, (.tmp 8)))]) Option.none), (3, 5)), ((.mk
  (Option.some 10) (.box (.tmp 9)) Option.none), (3, 7)), ((.mk (Option.some 4) (.mv (.tmp 10)) Option.none), (6, 7))]) .ret)) 11 [(.tmp 4)])
def a131 : AFn :=
  (.mk (.seq (.region [(.mk (Option.some 4) (.mv (.const (.pointer Option.none))) Option.none)]) (.seq (.draws [((.mk (Option.some 5) (.mv (.tmp 0)) Option.none), (0, 5)), ((.mk
  (Option.some 6) (.mv (.tmp 1)) Option.none), (0, 2)), ((.mk (Option.some 7) (.call 140 [(.tmp 6)]) Option.none), (0, 5)), ((.mk (Option.some 8) (.load 1 Bool.false (.global 6))
  Option.none), (0, 5)), ((.mk (Option.some 9) (.build [(.str []), (.str []), .nilIface] [(0, (1, (.tmp 5))), (1, (1, (.tmp 7))), (2, (1, (.tmp 8)))]) Option.none), (3, 5)), ((.mk
  (Option.some 10) (.box (.tmp 9)) Option.none), (3, 7)), ((.mk (Option.some 4) (.mv (.tmp 10)) Option.none), (6, 7))]) .ret)) 11 [(.tmp 4)])
def a132 : AFn :=
  (.mk (.seq (.region [(.mk (Option.some 6) (.mv (.const (.pointer Option.none))) Option.none)]) (.seq (.region [(.mk (Option.some 7) (.mv (.tmp 0)) Option.none), (.mk (Option.some
  8) (.mv (.tmp 1)) Option.none), (.mk (Option.some 9) (.call 140 [(.tmp 8)]) Option.none), (.mk (Option.some 10) (.mv (.tmp 2)) Option.none), (.mk (Option.some 11) (.call 142
  [(.tmp 10)]) Option.none), (.mk (Option.some 12) (.bin .add (.const (.string (ByteArray.mk #[105, 110, 118, 97, 108, 105, 100, 32, 98, 97, 115, 101, 32]))) (.tmp 11))
  Option.none), (.mk (Option.some 13) (.call 141 [(.tmp 12)]) Option.none), (.mk (Option.some 14) (.build [(.str []), (.str []), .nilIface] [(0, (1, (.tmp 7))), (1, (1, (.tmp 9))),
  (2, (1, (.tmp 13)))]) Option.none), (.mk (Option.some 15) (.box (.tmp 14)) Option.none), (.mk (Option.some 6) (.mv (.tmp 15)) Option.none)]) .ret)) 16 [(.tmp 6)])
def a133 : AFn :=
  (.mk (.seq (.region [(.mk (Option.some 6) (.mv (.const (.pointer Option.none))) Option.none)]) (.seq (.region [(.mk (Option.some 7) (.mv (.tmp 0)) Option.none), (.mk (Option.some
  8) (.mv (.tmp 1)) Option.none), (.mk (Option.some 9) (.call 140 [(.tmp 8)]) Option.none), (.mk (Option.some 10) (.mv (.tmp 2)) Option.none), (.mk (Option.some 11) (.call 142
  [(.tmp 10)]) Option.none), (.mk (Option.some 12) (.bin .add (.const (.string (ByteArray.mk #[105, 110, 118, 97, 108, 105, 100, 32, 98, 105, 116, 32, 115, 105, 122, 101, 32])))
  (.tmp 11)) Option.none), (.mk (Option.some 13) (.call 141 [(.tmp 12)]) Option.none), (.mk (Option.some 14) (.build [(.str []), (.str []), .nilIface] [(0, (1, (.tmp 7))), (1, (1,
  (.tmp 9))), (2, (1, (.tmp 13)))]) Option.none), (.mk (Option.some 15) (.box (.tmp 14)) Option.none), (.mk (Option.some 6) (.mv (.tmp 15)) Option.none)]) .ret)) 16 [(.tmp 6)])
def a134 : AFn :=
  (.mk (.seq (.region [(.mk (Option.some 2) (.mv (.const (.int .i64 0))) Option.none)]) (.seq (.seq (.region [(.mk (Option.some 3) (.mv (.tmp 0)) Option.none), (.mk (Option.some 4)
  (.bin .eql (.tmp 3) (.const (.int .u32 0))) Option.none)]) (.cond (.tmp 4) (.seq (.region [(.mk (Option.some 2) (.mv (.const (.int .i64 32))) Option.none)]) .ret) .skip)) (.seq
  (.region [(.mk (Option.some 5) (.mv (.tmp 0)) Option.none), (.mk (Option.some 6) (.mv (.tmp 0)) Option.none), (.mk (Option.some 7) (.un .neg (.tmp 6)) Option.none), (.mk
  (Option.some 8) (.bin .and (.tmp 5) (.tmp 7)) Option.none), (.mk (Option.some 9) (.bin .mul (.tmp 8) (.const (.int .u32 125613361))) Option.none), (.mk (Option.some 10) (.bin
  .shr (.tmp 9) (.const (.int .u64 27))) Option.none), (.mk (Option.some 11) (.atArray 32 1 (.global 7) (.tmp 10)) Option.none), (.mk (Option.some 12) (.load 1 Bool.false (.tmp
  11)) Option.none), (.mk (Option.some 13) (.conv .i64 (.tmp 12)) Option.none), (.mk (Option.some 2) (.mv (.tmp 13)) Option.none)]) .ret))) 14 [(.tmp 2)])
def a135 : AFn :=
  (.mk (.seq (.region [(.mk (Option.some 2) (.mv (.const (.int .i64 0))) Option.none)]) (.seq (.seq (.region [(.mk (Option.some 3) (.mv (.tmp 0)) Option.none), (.mk (Option.some 4)
  (.bin .eql (.tmp 3) (.const (.int .u64 0))) Option.none)]) (.cond (.tmp 4) (.seq (.region [(.mk (Option.some 2) (.mv (.const (.int .i64 64))) Option.none)]) .ret) .skip)) (.seq
  (.region [(.mk (Option.some 5) (.mv (.tmp 0)) Option.none), (.mk (Option.some 6) (.mv (.tmp 0)) Option.none), (.mk (Option.some 7) (.un .neg (.tmp 6)) Option.none), (.mk
  (Option.some 8) (.bin .and (.tmp 5) (.tmp 7)) Option.none), (.mk (Option.some 9) (.bin .mul (.tmp 8) (.const (.int .u64 285870213051353865))) Option.none), (.mk (Option.some 10)
  (.bin .shr (.tmp 9) (.const (.int .u64 58))) Option.none), (.mk (Option.some 11) (.atArray 64 1 (.global 8) (.tmp 10)) Option.none), (.mk (Option.some 12) (.load 1 Bool.false
  (.tmp 11)) Option.none), (.mk (Option.some 13) (.conv .i64 (.tmp 12)) Option.none), (.mk (Option.some 2) (.mv (.tmp 13)) Option.none)]) .ret))) 14 [(.tmp 2)])
def a137 : AFn :=
  (.mk (.seq (.region [(.mk (Option.some 2) (.mv (.const (.int .u32 0))) Option.none), (.mk (Option.some 3) (.mv (.const (.int .u32 0))) Option.none)]) (.seq (.region [(.mk
  (Option.some 4) (.mv (.const (.int .u32 0))) Option.none)]) (.seq (.seq (.region [(.mk (Option.some 5) (.mv (.const (.int .i64 0))) Option.none)]) (.block 0 (.loop (.seq (.seq
  (.region [(.mk (Option.some 9) (.mv (.tmp 5)) Option.none), (.mk (Option.some 10) (.mv (.tmp 0)) Option.none), (.mk (Option.some 11) (.lenStr (.tmp 10)) Option.none), (.mk
  (Option.some 12) (.bin .lss (.tmp 9) (.tmp 11)) Option.none)]) (.cond (.tmp 12) .skip (.exit 0))) (.seq (.block 1 (.region [(.mk (Option.some 15) (.mv (.tmp 4)) Option.none),
  (.mk (Option.some 16) (.bin .mul (.tmp 15) (.const (.int .u32 16777619))) Option.none), (.mk (Option.some 17) (.mv (.tmp 0)) Option.none), (.mk (Option.some 18) (.mv (.tmp 5))
  Option.none), (.mk (Option.some 19) (.byteAt (.tmp 17) (.tmp 18)) Option.none), (.mk (Option.some 20) (.conv .u32 (.tmp 19)) Option.none), (.mk (Option.some 21) (.bin .add (.tmp
  16) (.tmp 20)) Option.none), (.mk (Option.some 4) (.mv (.tmp 21)) Option.none)])) (.region [(.mk (Option.some 13) (.mv (.tmp 5)) Option.none), (.mk (Option.some 14) (.bin .add
  (.tmp 13) (.const (.int .i64 1))) Option.none), (.mk (Option.some 5) (.mv (.tmp 14)) Option.none)])))))) (.seq (.region [(.mk (Option.some 6) (.mv (.const (.int .u32 1)))
  Option.none), (.mk (Option.some 7) (.mv (.const (.int .u32 16777619))) Option.none)]) (.seq (.seq (.region [(.mk (Option.some 22) (.mv (.tmp 0)) Option.none), (.mk (Option.some
  23) (.lenStr (.tmp 22)) Option.none), (.mk (Option.some 8) (.mv (.tmp 23)) Option.none)]) (.block 2 (.loop (.seq (.seq (.region [(.mk (Option.some 24) (.mv (.tmp 8))
  Option.none), (.mk (Option.some 25) (.bin .gtr (.tmp 24) (.const (.int .i64 0))) Option.none)]) (.cond (.tmp 25) .skip (.exit 2))) (.seq (.block 3 (.seq (.seq (.region [(.mk
  (Option.some 28) (.mv (.tmp 8)) Option.none), (.mk (Option.some 29) (.bin .and (.tmp 28) (.const (.int .i64 1))) Option.none), (.mk (Option.some 30) (.bin .neq (.tmp 29) (.const
  (.int .i64 0))) Option.none)]) (.cond (.tmp 30) (.region [(.mk (Option.some 31) (.mv (.tmp 6)) Option.none), (.mk (Option.some 32) (.mv (.tmp 7)) Option.none), (.mk (Option.some
  33) (.bin .mul (.tmp 31) (.tmp 32)) Option.none), (.mk (Option.some 6) (.mv (.tmp 33)) Option.none)]) .skip)) (.region [(.mk (Option.some 34) (.mv (.tmp 7)) Option.none), (.mk
  (Option.some 35) (.mv (.tmp 7)) Option.none), (.mk (Option.some 36) (.bin .mul (.tmp 34) (.tmp 35)) Option.none), (.mk (Option.some 7) (.mv (.tmp 36)) Option.none)]))) (.region
  [(.mk (Option.some 26) (.mv (.tmp 8)) Option.none), (.mk (Option.some 27) (.bin .shr (.tmp 26) (.const (.int .u64 1))) Option.none), (.mk (Option.some 8) (.mv (.tmp 27))
  Option.none)])))))) (.seq (.region [(.mk (Option.some 37) (.mv (.tmp 4)) Option.none), (.mk (Option.some 38) (.mv (.tmp 6)) Option.none), (.mk (Option.some 2) (.mv (.tmp 37))
  Option.none), (.mk (Option.some 3) (.mv (.tmp 38)) Option.none)]) .ret)))))) 39 [(.tmp 2), (.tmp 3)])
def a138 : AFn :=
  (.mk (.seq (.region [(.mk (Option.some 2) (.mv (.const (.int .u8 0))) Option.none)]) (.seq (.region [(.mk (Option.some 3) (.mv (.tmp 0)) Option.none), (.mk (Option.some 4) (.bin
  .or (.tmp 3) (.const (.int .u8 32))) Option.none), (.mk (Option.some 2) (.mv (.tmp 4)) Option.none)]) .ret)) 5 [(.tmp 2)])
def a139 : AFn :=
  (.mk (.seq (.region [(.mk (Option.some 2) (.mv (.const (.bool Bool.false))) Option.none)]) (.seq (.region [(.mk (Option.some 3) (.mv (.const (.int .i32 94))) Option.none)]) (.seq
  (.region [(.mk (Option.some 4) (.mv (.const (.int .i64 0))) Option.none)]) (.seq (.seq (.region [(.mk (Option.some 6) (.mv (.tmp 0)) Option.none), (.mk (Option.some 7) (.lenStr
  (.tmp 6)) Option.none), (.mk (Option.some 8) (.bin .geq (.tmp 7) (.const (.int .i64 1))) Option.none), (.mk (Option.some 9) (.mv (.tmp 8)) Option.none), (.mk (Option.some 10)
  (.mv (.tmp 0)) (Option.some (9, Bool.true))), (.mk (Option.some 11) (.byteAt (.tmp 10) (.const (.int .i64 0))) (Option.some (9, Bool.true))), (.mk (Option.some 12) (.bin .eql
  (.tmp 11) (.const (.int .u8 45))) (Option.some (9, Bool.true))), (.mk (Option.some 13) (.mv (.tmp 12)) (Option.some (9, Bool.true))), (.mk (Option.some 14) (.mv (.tmp 0))
  (Option.some (13, Bool.false))), (.mk (Option.some 15) (.byteAt (.tmp 14) (.const (.int .i64 0))) (Option.some (13, Bool.false))), (.mk (Option.some 16) (.bin .eql (.tmp 15)
  (.const (.int .u8 43))) (Option.some (13, Bool.false))), (.mk (Option.some 17) (.pick (.tmp 13) (.const (.bool Bool.true)) (.tmp 16)) (Option.some (9, Bool.true))), (.mk
  (Option.some 18) (.pick (.tmp 9) (.tmp 17) (.const (.bool Bool.false))) Option.none)]) (.cond (.tmp 18) (.region [(.mk (Option.some 19) (.mv (.tmp 0)) Option.none), (.mk
  (Option.some 20) (.cutStr (.tmp 19) (Option.some (.const (.int .i64 1))) Option.none) Option.none), (.mk (Option.some 0) (.mv (.tmp 20)) Option.none)]) .skip)) (.seq (.region
  [(.mk (Option.some 5) (.mv (.const (.bool Bool.false))) Option.none)]) (.seq (.seq (.region [(.mk (Option.some 21) (.mv (.tmp 0)) Option.none), (.mk (Option.some 22) (.lenStr
  (.tmp 21)) Option.none), (.mk (Option.some 23) (.bin .geq (.tmp 22) (.const (.int .i64 2))) Option.none), (.mk (Option.some 24) (.mv (.tmp 23)) Option.none), (.mk (Option.some
  25) (.mv (.tmp 0)) (Option.some (24, Bool.true))), (.mk (Option.some 26) (.byteAt (.tmp 25) (.const (.int .i64 0))) (Option.some (24, Bool.true))), (.mk (Option.some 27) (.bin
  .eql (.tmp 26) (.const (.int .u8 48))) (Option.some (24, Bool.true))), (.mk (Option.some 28) (.pick (.tmp 24) (.tmp 27) (.const (.bool Bool.false))) Option.none), (.mk
  (Option.some 29) (.mv (.tmp 28)) Option.none), (.mk (Option.some 30) (.mv (.tmp 0)) (Option.some (29, Bool.true))), (.mk (Option.some 31) (.byteAt (.tmp 30) (.const (.int .i64
  1))) (Option.some (29, Bool.true))), (.mk (Option.some 32) (.call 138 [(.tmp 31)]) (Option.some (29, Bool.true))), (.mk (Option.some 33) (.bin .eql (.tmp 32) (.const (.int .u8
  98))) (Option.some (29, Bool.true))), (.mk (Option.some 34) (.mv (.tmp 33)) (Option.some (29, Bool.true))), (.mk (Option.some 35) (.mv (.tmp 0)) (Option.some (34, Bool.false))),
  (.mk (Option.some 36) (.byteAt (.tmp 35) (.const (.int .i64 1))) (Option.some (34, Bool.false))), (.mk (Option.some 37) (.call 138 [(.tmp 36)]) (Option.some (34, Bool.false))),
  (.mk (Option.some 38) (.bin .eql (.tmp 37) (.const (.int .u8 111))) (Option.some (34, Bool.false))), (.mk (Option.some 39) (.pick (.tmp 34) (.const (.bool Bool.true)) (.tmp 38))
  (Option.some (29, Bool.true))), (.mk (Option.some 40) (.mv (.tmp 39)) (Option.some (29, Bool.true))), (.mk (Option.some 41) (.mv (.tmp 0)) (Option.some (40, Bool.false))), (.mk
  (Option.some 42) (.byteAt (.tmp 41) (.const (.int .i64 1))) (Option.some (40, Bool.false))), (.mk (Option.some 43) (.call 138 [(.tmp 42)]) (Option.some (40, Bool.false))), (.mk
  (Option.some 44) (.bin .eql (.tmp 43) (.const (.int .u8 120))) (Option.some (40, Bool.false))), (.mk (Option.some 45) (.pick (.tmp 40) (.const (.bool Bool.true)) (.tmp 44))
  (Option.some (29, Bool.true))), (.mk (Option.some 46) (.pick (.tmp 29) (.tmp 45) (.const (.bool Bool.false))) Option.none)]) (.cond (.tmp 46) (.seq (.region [(.mk (Option.some 4)
  (.mv (.const (.int .i64 2))) Option.none)]) (.seq (.region [(.mk (Option.some 3) (.mv (.const (.int .i32 48))) Option.none)]) (.region [(.mk (Option.some 47) (.mv (.tmp 0))
  Option.none), (.mk (Option.some 48) (.byteAt (.tmp 47) (.const (.int .i64 1))) Option.none), (.mk (Option.some 49) (.call 138 [(.tmp 48)]) Option.none), (.mk (Option.some 50)
  (.bin .eql (.tmp 49) (.const (.int .u8 120))) Option.none), (.mk (Option.some 5) (.mv (.tmp 50)) Option.none)]))) .skip)) (.seq (.block 0 (.loop (.seq (.seq (.region [(.mk
  (Option.some 51) (.mv (.tmp 4)) Option.none), (.mk (Option.some 52) (.mv (.tmp 0)) Option.none), (.mk (Option.some 53) (.lenStr (.tmp 52)) Option.none), (.mk (Option.some 54)
  (.bin .lss (.tmp 51) (.tmp 53)) Option.none)]) (.cond (.tmp 54) .skip (.exit 0))) (.seq (.block 1 (.seq (.seq (.region [(.mk (Option.some 57) (.mv (.tmp 0)) Option.none), (.mk
  (Option.some 58) (.mv (.tmp 4)) Option.none), (.mk (Option.some 59) (.byteAt (.tmp 57) (.tmp 58)) Option.none), (.mk (Option.some 60) (.bin .leq (.const (.int .u8 48)) (.tmp 59))
  Option.none), (.mk (Option.some 61) (.mv (.tmp 60)) Option.none), (.mk (Option.some 62) (.mv (.tmp 0)) (Option.some (61, Bool.true))), (.mk (Option.some 63) (.mv (.tmp 4))
  (Option.some (61, Bool.true))), (.mk (Option.some 64) (.byteAt (.tmp 62) (.tmp 63)) (Option.some (61, Bool.true))), (.mk (Option.some 65) (.bin .leq (.tmp 64) (.const (.int .u8
  57))) (Option.some (61, Bool.true))), (.mk (Option.some 66) (.pick (.tmp 61) (.tmp 65) (.const (.bool Bool.false))) Option.none), (.mk (Option.some 67) (.mv (.tmp 66))
  Option.none), (.mk (Option.some 68) (.mv (.tmp 5)) (Option.some (67, Bool.false))), (.mk (Option.some 69) (.mv (.tmp 68)) (Option.some (67, Bool.false))), (.mk (Option.some 70)
  (.mv (.tmp 0)) (Option.some (69, Bool.true))), (.mk (Option.some 71) (.mv (.tmp 4)) (Option.some (69, Bool.true))), (.mk (Option.some 72) (.byteAt (.tmp 70) (.tmp 71))
  (Option.some (69, Bool.true))), (.mk (Option.some 73) (.call 138 [(.tmp 72)]) (Option.some (69, Bool.true))), (.mk (Option.some 74) (.bin .leq (.const (.int .u8 97)) (.tmp 73))
  (Option.some (69, Bool.true))), (.mk (Option.some 75) (.pick (.tmp 69) (.tmp 74) (.const (.bool Bool.false))) (Option.some (67, Bool.false))), (.mk (Option.some 76) (.mv (.tmp
  75)) (Option.some (67, Bool.false))), (.mk (Option.some 77) (.mv (.tmp 0)) (Option.some (76, Bool.true))), (.mk (Option.some 78) (.mv (.tmp 4)) (Option.some (76, Bool.true))),
  (.mk (Option.some 79) (.byteAt (.tmp 77) (.tmp 78)) (Option.some (76, Bool.true))), (.mk (Option.some 80) (.call 138 [(.tmp 79)]) (Option.some (76, Bool.true))), (.mk
  (Option.some 81) (.bin .leq (.tmp 80) (.const (.int .u8 102))) (Option.some (76, Bool.true))), (.mk (Option.some 82) (.pick (.tmp 76) (.tmp 81) (.const (.bool Bool.false)))
  (Option.some (67, Bool.false))), (.mk (Option.some 83) (.pick (.tmp 67) (.const (.bool Bool.true)) (.tmp 82)) Option.none)]) (.cond (.tmp 83) (.seq (.region [(.mk (Option.some 3)
  (.mv (.const (.int .i32 48))) Option.none)]) (.exit 1)) .skip)) (.seq (.seq (.region [(.mk (Option.some 84) (.mv (.tmp 0)) Option.none), (.mk (Option.some 85) (.mv (.tmp 4))
  Option.none), (.mk (Option.some 86) (.byteAt (.tmp 84) (.tmp 85)) Option.none), (.mk (Option.some 87) (.bin .eql (.tmp 86) (.const (.int .u8 95))) Option.none)]) (.cond (.tmp 87)
  (.seq (.seq (.region [(.mk (Option.some 88) (.mv (.tmp 3)) Option.none), (.mk (Option.some 89) (.bin .neq (.tmp 88) (.const (.int .i32 48))) Option.none)]) (.cond (.tmp 89) (.seq
  (.region [(.mk (Option.some 2) (.mv (.const (.bool Bool.false))) Option.none)]) .ret) .skip)) (.seq (.region [(.mk (Option.some 3) (.mv (.const (.int .i32 95))) Option.none)])
  (.exit 1))) .skip)) (.seq (.seq (.region [(.mk (Option.some 90) (.mv (.tmp 3)) Option.none), (.mk (Option.some 91) (.bin .eql (.tmp 90) (.const (.int .i32 95))) Option.none)])
  (.cond (.tmp 91) (.seq (.region [(.mk (Option.some 2) (.mv (.const (.bool Bool.false))) Option.none)]) .ret) .skip)) (.region [(.mk (Option.some 3) (.mv (.const (.int .i32 33)))
  Option.none)]))))) (.region [(.mk (Option.some 55) (.mv (.tmp 4)) Option.none), (.mk (Option.some 56) (.bin .add (.tmp 55) (.const (.int .i64 1))) Option.none), (.mk (Option.some
  4) (.mv (.tmp 56)) Option.none)]))))) (.seq (.region [(.mk (Option.some 92) (.mv (.tmp 3)) Option.none), (.mk (Option.some 93) (.bin .neq (.tmp 92) (.const (.int .i32 95)))
  Option.none), (.mk (Option.some 2) (.mv (.tmp 93)) Option.none)]) .ret)))))))) 94 [(.tmp 2)])
def a140 : AFn :=
  (.mk (.seq (.region [(.mk (Option.some 2) (.mv (.const (.string (ByteArray.mk #[])))) Option.none)]) (.seq (.seq (.region [(.mk (Option.some 4) (.mv (.tmp 0)) Option.none), (.mk
  (Option.some 5) (.lenStr (.tmp 4)) Option.none), (.mk (Option.some 6) (.bin .eql (.tmp 5) (.const (.int .i64 0))) Option.none)]) (.cond (.tmp 6) (.seq (.region [(.mk (Option.some
  2) (.mv (.const (.string (ByteArray.mk #[])))) Option.none)]) .ret) .skip)) (.seq (.region [(.mk (Option.some 7) (.mv (.tmp 0)) Option.none), (.mk (Option.some 8) (.lenStr (.tmp
  7)) Option.none), (.mk (Option.some 9) (.makeSlice 1 1 [(.int .u8 0)] (.tmp 8) (.tmp 8)) Option.none), (.mk (Option.some 3) (.mv (.tmp 9)) Option.none)]) (.seq (.region [(.mk
  (Option.some 10) (.mv (.tmp 3)) Option.none), (.mk (Option.some 11) (.mv (.tmp 0)) Option.none), (.mk (Option.some 12) (.extract (.const (.bool Bool.false)) 0) Option.none)])
  (.seq (.region [(.mk (Option.some 13) (.mv (.tmp 3)) Option.none), (.mk (Option.some 14) (.atSlice 1 (.tmp 13) (.const (.int .i64 0))) Option.none), (.mk (Option.some 15) (.mv
  (.tmp 3)) Option.none), (.mk (Option.some 16) (.len (.tmp 15)) Option.none), (.mk (Option.some 17) (.extract (.const (.bool Bool.false)) 0) Option.none), (.mk (Option.some 2)
  (.mv (.tmp 17)) Option.none)]) .ret))))) 18 [(.tmp 2)])
def a141 : AFn :=
  (.mk (.seq (.region [(.mk (Option.some 2) (.mv (.const .nilIface)) Option.none)]) (.seq (.region [(.mk (Option.some 3) (.mv (.tmp 0)) Option.none), (.mk (Option.some 4) (.build
  [(.str [])] [(0, (1, (.tmp 3)))]) Option.none), (.mk (Option.some 5) (.box (.tmp 4)) Option.none), (.mk (Option.some 6) (.mkIface 206 (.tmp 5)) Option.none), (.mk (Option.some 2)
  (.mv (.tmp 6)) Option.none)]) .ret)) 7 [(.tmp 2)])
def a142 : AFn :=
  (.mk (.seq (.region [(.mk (Option.some 2) (.mv (.const (.string (ByteArray.mk #[])))) Option.none)]) (.seq (.region [(.mk (Option.some 3) (.mv (.tmp 0)) Option.none), (.mk
  (Option.some 4) (.call 143 [(.tmp 3)]) Option.none), (.mk (Option.some 2) (.mv (.tmp 4)) Option.none)]) .ret)) 5 [(.tmp 2)])
def a143 : AFn :=
  (.mk (.seq (.region [(.mk (Option.some 2) (.mv (.const (.string (ByteArray.mk #[])))) Option.none)]) (.seq (.region [(.mk (Option.some 3) (.mv (.tmp 0)) Option.none), (.mk
  (Option.some 4) (.call 83 [(.tmp 3), (.const (.int .i64 10))]) Option.none), (.mk (Option.some 2) (.mv (.tmp 4)) Option.none)]) .ret)) 5 [(.tmp 2)])
def a164 : AFn :=
  (.mk (.seq (.region [(.mk (Option.some 1) (.box (.tmp 0)) Option.none), (.mk (Option.some 2) (.mv (.const .nilIface)) Option.none)]) (.seq (.region [(.mk (Option.some 3)
  (.fieldAddr 0 (.tmp 1)) Option.none), (.mk (Option.some 4) (.load 1 Bool.false (.tmp 3)) Option.none), (.mk (Option.some 2) (.mv (.tmp 4)) Option.none)]) .ret)) 5 [(.tmp 2)])
def a183 : AFn :=
  (.mk (.seq (.region [(.mk (Option.some 2) (.mv (.const .nilIface)) Option.none)]) (.seq (.region [(.mk (Option.some 3) (.mv (.tmp 0)) Option.none), (.mk (Option.some 4) (.nilCheck
  (.tmp 3)) Option.none), (.mk (Option.some 5) (.fieldAddr 2 (.tmp 4)) Option.none), (.mk (Option.some 6) (.load 1 Bool.false (.tmp 5)) Option.none), (.mk (Option.some 2) (.mv
  (.tmp 6)) Option.none)]) .ret)) 7 [(.tmp 2)])
def fns : Nat → Option AFn
  | 3 => some a3
  | 5 => some a5
  | 6 => some a6
  | 7 => some a7
  | 8 => some a8
  | 9 => some a9
  | 10 => some a10
  | 11 => some a11
  | 12 => some a12
  | 17 => some a17
  | 19 => some a19
  | 20 => some a20
  | 21 => some a21
  | 22 => some a22
  | 23 => some a23
  | 24 => some a24
  | 25 => some a25
  | 26 => some a26
  | 27 => some a27
  | 28 => some a28
  | 29 => some a29
  | 30 => some a30
  | 31 => some a31
  | 32 => some a32
  | 33 => some a33
  | 34 => some a34
  | 43 => some a43
  | 54 => some a54
  | 55 => some a55
  | 59 => some a59
  | 60 => some a60
  | 61 => some a61
  | 62 => some a62
  | 63 => some a63
  | 64 => some a64
  | 65 => some a65
  | 66 => some a66
  | 67 => some a67
  | 68 => some a68
  | 69 => some a69
  | 70 => some a70
  | 71 => some a71
  | 72 => some a72
  | 73 => some a73
  | 75 => some a75
  | 79 => some a79
  | 80 => some a80
  | 83 => some a83
  | 86 => some a86
  | 87 => some a87
  | 88 => some a88
  | 89 => some a89
  | 90 => some a90
  | 94 => some a94
  | 95 => some a95
  | 96 => some a96
  | 97 => some a97
  | 98 => some a98
  | 99 => some a99
  | 100 => some a100
  | 101 => some a101
  | 102 => some a102
  | 103 => some a103
  | 104 => some a104
  | 105 => some a105
  | 108 => some a108
  | 109 => some a109
  | 111 => some a111
  | 112 => some a112
  | 113 => some a113
  | 117 => some a117
  | 118 => some a118
  | 119 => some a119
  | 120 => some a120
  | 121 => some a121
  | 122 => some a122
  | 123 => some a123
  | 124 => some a124
  | 125 => some a125
  | 127 => some a127
  | 128 => some a128
  | 129 => some a129
  | 130 => some a130
  | 131 => some a131
  | 132 => some a132
  | 133 => some a133
  | 134 => some a134
  | 135 => some a135
  | 137 => some a137
  | 138 => some a138
  | 139 => some a139
  | 140 => some a140
  | 141 => some a141
  | 142 => some a142
  | 143 => some a143
  | 164 => some a164
  | 183 => some a183
  | _ => none
end Go.Proofs.YtejlhgcheaimjaaGreatDoor
