/- The functions of the seat as the abstract machine's code: no program in sight. -/
import Derived.Test.YteoioahkflcchaaGreatDoorAmDefs
namespace Go.Proofs.YteoioahkflcchaaGreatDoor
open Go.AM
set_option maxRecDepth 100000
def a3 : AFn :=
  (.mk (.seq (.region [(.mk (Option.some 3) (.box (.tmp 0)) Option.none), (.mk (Option.some 6) (.mv (.const (.bool Bool.false))) Option.none)]) (.seq (.region [(.mk (Option.some 15)
  (.load 4 Bool.true (.tmp 3)) Option.none), (.mk (Option.some 16) (.buildSlice 1 4 [(.int .i64 0), (.str []), (.int .i64 0), (.int .i64 0)] [(0, (4, (.tmp 15)))]) Option.none),
  (.mk (Option.some 17) (.call 7 [(.tmp 16)]) Option.none), (.mk (Option.some 18) (.atSlice 4 (.tmp 17) (.const (.int .i64 0))) Option.none), (.mk (Option.some 19) (.load 4
  Bool.true (.tmp 18)) Option.none), (.mk Option.none (.store 4 (.tmp 3) (.tmp 19)) Option.none)]) (.seq (.region [(.mk (Option.some 21) (.load 4 Bool.true (.tmp 3)) Option.none),
  (.mk (Option.some 22) (.mv (.tmp 1)) Option.none), (.mk (Option.some 23) (.mv (.tmp 2)) Option.none), (.mk (Option.some 24) (.call 8 [(.tmp 21), (.tmp 22), (.tmp 23)])
  Option.none), (.mk (Option.some 20) (.mv (.tmp 24)) Option.none), (.mk (Option.some 25) (.extract (.tmp 20) 0) Option.none), (.mk (Option.some 26) (.extract (.tmp 20) 1)
  Option.none), (.mk (Option.some 27) (.extract (.tmp 20) 2) Option.none), (.mk (Option.some 28) (.extract (.tmp 20) 3) Option.none), (.mk (Option.some 7) (.mv (.tmp 25))
  Option.none), (.mk (Option.some 8) (.mv (.tmp 26)) Option.none), (.mk (Option.some 9) (.mv (.tmp 27)) Option.none), (.mk (Option.some 10) (.mv (.tmp 28)) Option.none)]) (.seq
  (.region [(.mk (Option.some 30) (.load 4 Bool.true (.tmp 3)) Option.none), (.mk (Option.some 31) (.mv (.tmp 1)) Option.none), (.mk (Option.some 32) (.mv (.tmp 2)) Option.none),
  (.mk (Option.some 33) (.call 9 [(.tmp 30), (.tmp 31), (.tmp 32)]) Option.none), (.mk (Option.some 29) (.mv (.tmp 33)) Option.none), (.mk (Option.some 34) (.extract (.tmp 29) 0)
  Option.none), (.mk (Option.some 35) (.extract (.tmp 29) 1) Option.none), (.mk (Option.some 36) (.extract (.tmp 29) 2) Option.none), (.mk (Option.some 37) (.extract (.tmp 29) 3)
  Option.none), (.mk (Option.some 11) (.mv (.tmp 34)) Option.none), (.mk (Option.some 12) (.mv (.tmp 35)) Option.none), (.mk (Option.some 13) (.mv (.tmp 36)) Option.none), (.mk
  (Option.some 14) (.mv (.tmp 37)) Option.none)]) (.seq (.seq (.region [(.mk (Option.some 38) (.mv (.tmp 10)) Option.none), (.mk (Option.some 39) (.mv (.tmp 14)) Option.none), (.mk
  (Option.some 40) (.bin .neq (.tmp 38) (.tmp 39)) Option.none), (.mk (Option.some 41) (.mv (.tmp 40)) Option.none), (.mk (Option.some 42) (.mv (.tmp 8)) (Option.some (41,
  Bool.false))), (.mk (Option.some 43) (.mv (.tmp 12)) (Option.some (41, Bool.false))), (.mk (Option.some 44) (.eqb Bool.true (.tmp 42) (.tmp 43)) (Option.some (41, Bool.false))),
  (.mk (Option.some 45) (.pick (.tmp 41) (.const (.bool Bool.true)) (.tmp 44)) Option.none), (.mk (Option.some 46) (.mv (.tmp 45)) Option.none), (.mk (Option.some 47) (.mv (.tmp
  9)) (Option.some (46, Bool.false))), (.mk (Option.some 48) (.mv (.tmp 13)) (Option.some (46, Bool.false))), (.mk (Option.some 49) (.bin .neq (.tmp 47) (.tmp 48)) (Option.some
  (46, Bool.false))), (.mk (Option.some 50) (.pick (.tmp 46) (.const (.bool Bool.true)) (.tmp 49)) Option.none), (.mk (Option.some 51) (.mv (.tmp 50)) Option.none), (.mk
  (Option.some 52) (.mv (.tmp 7)) (Option.some (51, Bool.false))), (.mk (Option.some 53) (.mv (.tmp 11)) (Option.some (51, Bool.false))), (.mk (Option.some 54) (.bin .neq (.tmp 52)
  (.tmp 53)) (Option.some (51, Bool.false))), (.mk (Option.some 55) (.pick (.tmp 51) (.const (.bool Bool.true)) (.tmp 54)) Option.none)]) (.cond (.tmp 55) (.seq (.region [(.mk
  (Option.some 6) (.mv (.const (.bool Bool.false))) Option.none)]) .ret) .skip)) (.seq (.region [(.mk (Option.some 56) (.mv (.tmp 10)) Option.none), (.mk (Option.some 57) (.bin
  .eql (.tmp 56) (.const (.int .i64 0))) Option.none), (.mk (Option.some 58) (.mv (.tmp 57)) Option.none), (.mk (Option.some 59) (.load 4 Bool.true (.tmp 3)) (Option.some (58,
  Bool.false))), (.mk (Option.some 60) (.buildSlice 1 4 [(.int .i64 0), (.str []), (.int .i64 0), (.int .i64 0)] [(0, (4, (.tmp 59)))]) (Option.some (58, Bool.false))), (.mk
  (Option.some 61) (.call 10 [(.tmp 60)]) (Option.some (58, Bool.false))), (.mk (Option.some 62) (.un .not (.tmp 61)) (Option.some (58, Bool.false))), (.mk (Option.some 63) (.pick
  (.tmp 58) (.const (.bool Bool.true)) (.tmp 62)) Option.none), (.mk (Option.some 64) (.mv (.tmp 63)) Option.none), (.mk (Option.some 65) (.load 4 Bool.true (.tmp 3)) (Option.some
  (64, Bool.false))), (.mk (Option.some 66) (.call 11 [(.tmp 65)]) (Option.some (64, Bool.false))), (.mk (Option.some 67) (.un .not (.tmp 66)) (Option.some (64, Bool.false))), (.mk
  (Option.some 68) (.pick (.tmp 64) (.const (.bool Bool.true)) (.tmp 67)) Option.none), (.mk (Option.some 69) (.mv (.tmp 68)) Option.none), (.mk (Option.some 70) (.call 12 [])
  (Option.some (69, Bool.true))), (.mk (Option.some 71) (.pick (.tmp 69) (.tmp 70) (.const (.bool Bool.false))) Option.none), (.mk (Option.some 6) (.mv (.tmp 71)) Option.none)])
  .ret)))))) 72 [(.tmp 6)])
def a4 : AFn :=
  (.mk (.seq (.region [(.mk (Option.some 4) (.mv (.const (.bool Bool.false))) Option.none)]) (.seq (.region [(.mk (Option.some 10) (.mv (.tmp 0)) Option.none), (.mk (Option.some 11)
  (.call 7 [(.tmp 10)]) Option.none), (.mk (Option.some 0) (.mv (.tmp 11)) Option.none)]) (.seq (.seq (.region [(.mk (Option.some 12) (.mv (.tmp 1)) Option.none), (.mk (Option.some
  13) (.lenStr (.tmp 12)) Option.none), (.mk (Option.some 14) (.bin .gtr (.tmp 13) (.const (.int .i64 20))) Option.none)]) (.cond (.tmp 14) (.region [(.mk (Option.some 15) (.mv
  (.tmp 1)) Option.none), (.mk (Option.some 16) (.cutStr (.tmp 15) Option.none (Option.some (.const (.int .i64 20)))) Option.none), (.mk (Option.some 1) (.mv (.tmp 16))
  Option.none)]) .skip)) (.seq (.region [(.mk (Option.some 5) (.mv (.const (.bool Bool.true))) Option.none)]) (.seq (.seq (.region [(.mk (Option.some 17) (.mv (.tmp 0))
  Option.none), (.mk (Option.some 18) (.len (.tmp 17)) Option.none), (.mk (Option.some 19) (.mv (.const (.int .i64 0))) Option.none)]) (.block 0 (.loop (.seq (.region [(.mk
  (Option.some 20) (.bin .lss (.tmp 19) (.tmp 18)) Option.none)]) (.seq (.cond (.tmp 20) .skip (.exit 0)) (.seq (.block 1 (.seq (.region [(.mk (Option.some 21) (.atSlice 4 (.tmp
  17) (.tmp 19)) Option.none), (.mk (Option.some 22) (.load 4 Bool.true (.tmp 21)) Option.none), (.mk (Option.some 7) (.alloc [(.int .i64 0), (.str []), (.int .i64 0), (.int .i64
  0)]) Option.none), (.mk Option.none (.store 4 (.tmp 7) (.tmp 22)) Option.none)]) (.seq (.seq (.draws [((.mk (Option.some 23) (.load 4 Bool.true (.tmp 7)) Option.none), (0, 1)),
  ((.mk (Option.some 24) (.call 13 [(.tmp 23)]) Option.none), (0, 3)), ((.mk (Option.some 25) (.load 4 Bool.true (.tmp 7)) Option.none), (0, 3)), ((.mk (Option.some 26) (.call 11
  [(.tmp 25)]) Option.none), (2, 5)), ((.mk (Option.some 27) (.eqb Bool.true (.tmp 24) (.tmp 26)) Option.none), (4, 5))]) (.cond (.tmp 27) (.seq (.region [(.mk (Option.some 4) (.mv
  (.const (.bool Bool.false))) Option.none)]) .ret) .skip)) (.region [(.mk (Option.some 28) (.mv (.tmp 5)) Option.none), (.mk (Option.some 29) (.mv (.tmp 28)) Option.none), (.mk
  (Option.some 30) (.fieldAddr 0 (.tmp 7)) (Option.some (29, Bool.true))), (.mk (Option.some 31) (.load 1 Bool.false (.tmp 30)) (Option.some (29, Bool.true))), (.mk (Option.some
  32) (.bin .neq (.tmp 31) (.const (.int .i64 4))) (Option.some (29, Bool.true))), (.mk (Option.some 33) (.pick (.tmp 29) (.tmp 32) (.const (.bool Bool.false))) Option.none), (.mk
  (Option.some 34) (.mv (.tmp 33)) Option.none), (.mk (Option.some 35) (.fieldAddr 0 (.tmp 7)) (Option.some (34, Bool.true))), (.mk (Option.some 36) (.load 1 Bool.false (.tmp 35))
  (Option.some (34, Bool.true))), (.mk (Option.some 37) (.bin .neq (.tmp 36) (.const (.int .i64 5))) (Option.some (34, Bool.true))), (.mk (Option.some 38) (.pick (.tmp 34) (.tmp
  37) (.const (.bool Bool.false))) Option.none), (.mk (Option.some 5) (.mv (.tmp 38)) Option.none)])))) (.region [(.mk (Option.some 39) (.bin .add (.tmp 19) (.const (.int .i64 1)))
  Option.none), (.mk (Option.some 19) (.mv (.tmp 39)) Option.none)]))))))) (.seq (.seq (.region [(.mk (Option.some 40) (.mv (.tmp 0)) Option.none), (.mk (Option.some 41) (.call 14
  [(.tmp 40)]) Option.none), (.mk (Option.some 42) (.mv (.tmp 0)) Option.none), (.mk (Option.some 43) (.call 15 [(.tmp 42)]) Option.none), (.mk (Option.some 44) (.bin .neq (.tmp
  41) (.tmp 43)) Option.none), (.mk (Option.some 45) (.mv (.tmp 44)) Option.none), (.mk (Option.some 46) (.mv (.tmp 1)) (Option.some (45, Bool.false))), (.mk (Option.some 47)
  (.call 16 [(.tmp 46)]) (Option.some (45, Bool.false))), (.mk (Option.some 48) (.mv (.tmp 1)) (Option.some (45, Bool.false))), (.mk (Option.some 49) (.call 17 [(.tmp 48)])
  (Option.some (45, Bool.false))), (.mk (Option.some 50) (.eqb Bool.true (.tmp 47) (.tmp 49)) (Option.some (45, Bool.false))), (.mk (Option.some 51) (.pick (.tmp 45) (.const (.bool
  Bool.true)) (.tmp 50)) Option.none)]) (.cond (.tmp 51) (.seq (.region [(.mk (Option.some 4) (.mv (.const (.bool Bool.false))) Option.none)]) .ret) .skip)) (.seq (.seq (.region
  [(.mk (Option.some 52) (.mv (.tmp 0)) Option.none), (.mk (Option.some 53) (.len (.tmp 52)) Option.none), (.mk (Option.some 54) (.mv (.const (.int .i64 0))) Option.none)]) (.block
  2 (.loop (.seq (.region [(.mk (Option.some 55) (.bin .lss (.tmp 54) (.tmp 53)) Option.none)]) (.seq (.cond (.tmp 55) .skip (.exit 2)) (.seq (.block 3 (.seq (.region [(.mk
  (Option.some 56) (.atSlice 4 (.tmp 52) (.tmp 54)) Option.none), (.mk (Option.some 57) (.load 4 Bool.true (.tmp 56)) Option.none), (.mk (Option.some 9) (.alloc [(.int .i64 0),
  (.str []), (.int .i64 0), (.int .i64 0)]) Option.none), (.mk Option.none (.store 4 (.tmp 9) (.tmp 57)) Option.none)]) (.seq (.region [(.mk (Option.some 58) (.load 4 Bool.true
  (.tmp 9)) Option.none), (.mk (Option.some 59) (.call 11 [(.tmp 58)]) Option.none), (.mk (Option.some 60) (.un .not (.tmp 59)) Option.none)]) (.cond (.tmp 60) (.seq (.region [(.mk
  (Option.some 61) (.call 12 []) Option.none), (.mk (Option.some 4) (.mv (.tmp 61)) Option.none)]) .ret) .skip)))) (.region [(.mk (Option.some 62) (.bin .add (.tmp 54) (.const
  (.int .i64 1))) Option.none), (.mk (Option.some 54) (.mv (.tmp 62)) Option.none)]))))))) (.seq (.region [(.mk (Option.some 63) (.mv (.tmp 0)) Option.none), (.mk (Option.some 64)
  (.call 10 [(.tmp 63)]) Option.none), (.mk (Option.some 65) (.mv (.tmp 5)) Option.none), (.mk (Option.some 66) (.eqb Bool.false (.tmp 64) (.tmp 65)) Option.none), (.mk
  (Option.some 67) (.mv (.tmp 66)) Option.none), (.mk (Option.some 68) (.call 12 []) (Option.some (67, Bool.true))), (.mk (Option.some 69) (.pick (.tmp 67) (.tmp 68) (.const (.bool
  Bool.false))) Option.none), (.mk (Option.some 4) (.mv (.tmp 69)) Option.none)]) .ret)))))))) 70 [(.tmp 4)])
def a5 : AFn :=
  (.mk (.seq (.region [(.mk (Option.some 4) (.mv (.const (.bool Bool.false))) Option.none)]) (.seq (.region [(.mk (Option.some 21) (.mv (.tmp 0)) Option.none), (.mk (Option.some 22)
  (.call 7 [(.tmp 21)]) Option.none), (.mk (Option.some 0) (.mv (.tmp 22)) Option.none)]) (.seq (.seq (.region [(.mk (Option.some 23) (.mv (.tmp 1)) Option.none), (.mk (Option.some
  24) (.len (.tmp 23)) Option.none), (.mk (Option.some 25) (.bin .gtr (.tmp 24) (.const (.int .i64 10))) Option.none)]) (.cond (.tmp 25) (.region [(.mk (Option.some 26) (.mv (.tmp
  1)) Option.none), (.mk (Option.some 27) (.cutSlice 2 (.tmp 26) Option.none (Option.some (.const (.int .i64 10))) Option.none) Option.none), (.mk (Option.some 1) (.mv (.tmp 27))
  Option.none)]) .skip)) (.seq (.region [(.mk (Option.some 5) (.mv (.const (.slice Option.none 0 0))) Option.none)]) (.seq (.seq (.region [(.mk (Option.some 28) (.mv (.tmp 1))
  Option.none), (.mk (Option.some 29) (.len (.tmp 28)) Option.none), (.mk (Option.some 30) (.mv (.const (.int .i64 0))) Option.none)]) (.block 0 (.loop (.seq (.region [(.mk
  (Option.some 31) (.bin .lss (.tmp 30) (.tmp 29)) Option.none)]) (.seq (.cond (.tmp 31) .skip (.exit 0)) (.seq (.block 1 (.seq (.region [(.mk (Option.some 32) (.atSlice 2 (.tmp
  28) (.tmp 30)) Option.none), (.mk (Option.some 33) (.load 2 Bool.true (.tmp 32)) Option.none), (.mk (Option.some 7) (.alloc [(.str []), (.int .i64 0)]) Option.none), (.mk
  Option.none (.store 2 (.tmp 7) (.tmp 33)) Option.none)]) (.seq (.seq (.region [(.mk (Option.some 34) (.fieldAddr 0 (.tmp 7)) Option.none), (.mk (Option.some 35) (.load 1
  Bool.false (.tmp 34)) Option.none), (.mk (Option.some 36) (.lenStr (.tmp 35)) Option.none), (.mk (Option.some 37) (.bin .gtr (.tmp 36) (.const (.int .i64 20))) Option.none)])
  (.cond (.tmp 37) (.region [(.mk (Option.some 38) (.fieldAddr 0 (.tmp 7)) Option.none), (.mk (Option.some 39) (.load 1 Bool.false (.tmp 38)) Option.none), (.mk (Option.some 40)
  (.cutStr (.tmp 39) Option.none (Option.some (.const (.int .i64 20)))) Option.none), (.mk (Option.some 41) (.fieldAddr 0 (.tmp 7)) Option.none), (.mk Option.none (.store 1 (.tmp
  41) (.tmp 40)) Option.none)]) .skip)) (.region [(.mk (Option.some 42) (.mv (.tmp 5)) Option.none), (.mk (Option.some 43) (.fieldAddr 0 (.tmp 7)) Option.none), (.mk (Option.some
  44) (.load 1 Bool.false (.tmp 43)) Option.none), (.mk (Option.some 45) (.fieldAddr 1 (.tmp 7)) Option.none), (.mk (Option.some 46) (.load 1 Bool.false (.tmp 45)) Option.none),
  (.mk (Option.some 47) (.call 18 [(.tmp 42), (.tmp 44), (.tmp 46), (.const (.bool Bool.true))]) Option.none), (.mk (Option.some 5) (.mv (.tmp 47)) Option.none)])))) (.region [(.mk
  (Option.some 48) (.bin .add (.tmp 30) (.const (.int .i64 1))) Option.none), (.mk (Option.some 30) (.mv (.tmp 48)) Option.none)]))))))) (.seq (.region [(.mk (Option.some 50) (.mv
  (.tmp 0)) Option.none), (.mk (Option.some 51) (.call 19 [(.tmp 50)]) Option.none), (.mk (Option.some 49) (.mv (.tmp 51)) Option.none), (.mk (Option.some 52) (.extract (.tmp 49)
  0) Option.none), (.mk (Option.some 53) (.extract (.tmp 49) 1) Option.none), (.mk (Option.some 8) (.mv (.tmp 52)) Option.none), (.mk (Option.some 9) (.mv (.tmp 53)) Option.none)])
  (.seq (.region [(.mk (Option.some 55) (.mv (.tmp 5)) Option.none), (.mk (Option.some 56) (.mv (.tmp 0)) Option.none), (.mk (Option.some 57) (.call 20 [(.tmp 55), (.tmp 56)])
  Option.none), (.mk (Option.some 54) (.mv (.tmp 57)) Option.none), (.mk (Option.some 58) (.extract (.tmp 54) 0) Option.none), (.mk (Option.some 59) (.extract (.tmp 54) 1)
  Option.none), (.mk (Option.some 10) (.mv (.tmp 58)) Option.none), (.mk (Option.some 11) (.mv (.tmp 59)) Option.none)]) (.seq (.seq (.region [(.mk (Option.some 60) (.mv (.tmp 9))
  Option.none), (.mk (Option.some 61) (.un .not (.tmp 60)) Option.none), (.mk (Option.some 62) (.mv (.tmp 61)) Option.none), (.mk (Option.some 63) (.mv (.tmp 11)) (Option.some (62,
  Bool.false))), (.mk (Option.some 64) (.un .not (.tmp 63)) (Option.some (62, Bool.false))), (.mk (Option.some 65) (.pick (.tmp 62) (.const (.bool Bool.true)) (.tmp 64))
  Option.none)]) (.cond (.tmp 65) (.seq (.region [(.mk (Option.some 66) (.call 12 []) Option.none), (.mk (Option.some 4) (.mv (.tmp 66)) Option.none)]) .ret) .skip)) (.seq (.region
  [(.mk (Option.some 68) (.mv (.tmp 10)) Option.none), (.mk (Option.some 69) (.mv (.tmp 8)) Option.none), (.mk (Option.some 70) (.call 20 [(.tmp 68), (.tmp 69)]) Option.none), (.mk
  (Option.some 67) (.mv (.tmp 70)) Option.none), (.mk (Option.some 71) (.extract (.tmp 67) 0) Option.none), (.mk (Option.some 72) (.extract (.tmp 67) 1) Option.none), (.mk
  (Option.some 12) (.mv (.tmp 71)) Option.none), (.mk (Option.some 11) (.mv (.tmp 72)) Option.none)]) (.seq (.seq (.region [(.mk (Option.some 73) (.mv (.tmp 11)) Option.none), (.mk
  (Option.some 74) (.un .not (.tmp 73)) Option.none)]) (.cond (.tmp 74) (.seq (.region [(.mk (Option.some 4) (.mv (.const (.bool Bool.false))) Option.none)]) .ret) .skip)) (.seq
  (.seq (.region [(.mk (Option.some 75) (.mv (.tmp 5)) Option.none), (.mk (Option.some 76) (.len (.tmp 75)) Option.none), (.mk (Option.some 77) (.mv (.const (.int .i64 0)))
  Option.none)]) (.block 2 (.loop (.seq (.region [(.mk (Option.some 78) (.bin .lss (.tmp 77) (.tmp 76)) Option.none)]) (.seq (.cond (.tmp 78) .skip (.exit 2)) (.seq (.block 3 (.seq
  (.region [(.mk (Option.some 79) (.atSlice 2 (.tmp 75) (.tmp 77)) Option.none), (.mk (Option.some 80) (.load 2 Bool.true (.tmp 79)) Option.none), (.mk (Option.some 14) (.alloc
  [(.str []), (.int .i64 0)]) Option.none), (.mk Option.none (.store 2 (.tmp 14) (.tmp 80)) Option.none)]) (.seq (.region [(.mk (Option.some 82) (.mv (.tmp 12)) Option.none), (.mk
  (Option.some 83) (.fieldAddr 0 (.tmp 14)) Option.none), (.mk (Option.some 84) (.load 1 Bool.false (.tmp 83)) Option.none), (.mk (Option.some 85) (.call 21 [(.tmp 82), (.tmp 84)])
  Option.none), (.mk (Option.some 81) (.mv (.tmp 85)) Option.none), (.mk (Option.some 86) (.extract (.tmp 81) 0) Option.none), (.mk (Option.some 87) (.extract (.tmp 81) 1)
  Option.none), (.mk (Option.some 15) (.mv (.tmp 86)) Option.none), (.mk (Option.some 16) (.mv (.tmp 87)) Option.none)]) (.seq (.region [(.mk (Option.some 88) (.mv (.tmp 16))
  Option.none), (.mk (Option.some 89) (.un .not (.tmp 88)) Option.none), (.mk (Option.some 90) (.mv (.tmp 89)) Option.none), (.mk (Option.some 91) (.mv (.tmp 15)) (Option.some (90,
  Bool.false))), (.mk (Option.some 92) (.fieldAddr 1 (.tmp 14)) (Option.some (90, Bool.false))), (.mk (Option.some 93) (.load 1 Bool.false (.tmp 92)) (Option.some (90,
  Bool.false))), (.mk (Option.some 94) (.bin .neq (.tmp 91) (.tmp 93)) (Option.some (90, Bool.false))), (.mk (Option.some 95) (.pick (.tmp 90) (.const (.bool Bool.true)) (.tmp 94))
  Option.none)]) (.cond (.tmp 95) (.seq (.region [(.mk (Option.some 4) (.mv (.const (.bool Bool.false))) Option.none)]) .ret) .skip))))) (.region [(.mk (Option.some 96) (.bin .add
  (.tmp 77) (.const (.int .i64 1))) Option.none), (.mk (Option.some 77) (.mv (.tmp 96)) Option.none)]))))))) (.seq (.seq (.region [(.mk (Option.some 97) (.mv (.tmp 12))
  Option.none), (.mk (Option.some 98) (.len (.tmp 97)) Option.none), (.mk (Option.some 99) (.mv (.const (.int .i64 0))) Option.none)]) (.block 4 (.loop (.seq (.region [(.mk
  (Option.some 100) (.bin .lss (.tmp 99) (.tmp 98)) Option.none)]) (.seq (.cond (.tmp 100) .skip (.exit 4)) (.seq (.block 5 (.seq (.region [(.mk (Option.some 101) (.atSlice 2 (.tmp
  97) (.tmp 99)) Option.none), (.mk (Option.some 102) (.load 2 Bool.true (.tmp 101)) Option.none), (.mk (Option.some 18) (.alloc [(.str []), (.int .i64 0)]) Option.none), (.mk
  Option.none (.store 2 (.tmp 18) (.tmp 102)) Option.none)]) (.seq (.region [(.mk (Option.some 104) (.mv (.tmp 5)) Option.none), (.mk (Option.some 105) (.fieldAddr 0 (.tmp 18))
  Option.none), (.mk (Option.some 106) (.load 1 Bool.false (.tmp 105)) Option.none), (.mk (Option.some 107) (.call 21 [(.tmp 104), (.tmp 106)]) Option.none), (.mk (Option.some 103)
  (.mv (.tmp 107)) Option.none), (.mk (Option.some 108) (.extract (.tmp 103) 0) Option.none), (.mk (Option.some 109) (.extract (.tmp 103) 1) Option.none), (.mk (Option.some 19)
  (.mv (.tmp 108)) Option.none), (.mk (Option.some 20) (.mv (.tmp 109)) Option.none)]) (.seq (.region [(.mk (Option.some 110) (.mv (.tmp 20)) Option.none), (.mk (Option.some 111)
  (.un .not (.tmp 110)) Option.none), (.mk (Option.some 112) (.mv (.tmp 111)) Option.none), (.mk (Option.some 113) (.fieldAddr 1 (.tmp 18)) (Option.some (112, Bool.true))), (.mk
  (Option.some 114) (.load 1 Bool.false (.tmp 113)) (Option.some (112, Bool.true))), (.mk (Option.some 115) (.bin .neq (.tmp 114) (.const (.int .i64 0))) (Option.some (112,
  Bool.true))), (.mk (Option.some 116) (.pick (.tmp 112) (.tmp 115) (.const (.bool Bool.false))) Option.none)]) (.cond (.tmp 116) (.seq (.region [(.mk (Option.some 4) (.mv (.const
  (.bool Bool.false))) Option.none)]) .ret) .skip))))) (.region [(.mk (Option.some 117) (.bin .add (.tmp 99) (.const (.int .i64 1))) Option.none), (.mk (Option.some 99) (.mv (.tmp
  117)) Option.none)]))))))) (.seq (.region [(.mk (Option.some 118) (.call 12 []) Option.none), (.mk (Option.some 4) (.mv (.tmp 118)) Option.none)]) .ret))))))))))))) 119 [(.tmp
  4)])
def a6 : AFn :=
  (.mk (.seq (.region [(.mk (Option.some 4) (.mv (.const (.bool Bool.false))) Option.none)]) (.seq (.region [(.mk (Option.some 20) (.mv (.tmp 0)) Option.none), (.mk (Option.some 21)
  (.call 7 [(.tmp 20)]) Option.none), (.mk (Option.some 22) (.mv (.tmp 1)) Option.none), (.mk (Option.some 23) (.call 7 [(.tmp 22)]) Option.none), (.mk (Option.some 0) (.mv (.tmp
  21)) Option.none), (.mk (Option.some 1) (.mv (.tmp 23)) Option.none)]) (.seq (.region [(.mk (Option.some 25) (.mv (.tmp 0)) Option.none), (.mk (Option.some 26) (.call 19 [(.tmp
  25)]) Option.none), (.mk (Option.some 24) (.mv (.tmp 26)) Option.none), (.mk (Option.some 27) (.extract (.tmp 24) 0) Option.none), (.mk (Option.some 28) (.extract (.tmp 24) 1)
  Option.none), (.mk (Option.some 5) (.mv (.tmp 27)) Option.none), (.mk (Option.some 6) (.mv (.tmp 28)) Option.none)]) (.seq (.region [(.mk (Option.some 30) (.mv (.tmp 0))
  Option.none), (.mk (Option.some 31) (.call 22 [(.tmp 30)]) Option.none), (.mk (Option.some 29) (.mv (.tmp 31)) Option.none), (.mk (Option.some 32) (.extract (.tmp 29) 0)
  Option.none), (.mk (Option.some 33) (.extract (.tmp 29) 1) Option.none), (.mk (Option.some 7) (.mv (.tmp 32)) Option.none), (.mk (Option.some 8) (.mv (.tmp 33)) Option.none)])
  (.seq (.seq (.region [(.mk (Option.some 34) (.mv (.tmp 0)) Option.none), (.mk (Option.some 35) (.mv (.tmp 1)) Option.none), (.mk (Option.some 36) (.call 23 [(.tmp 34), (.tmp
  35)]) Option.none), (.mk (Option.some 37) (.mv (.tmp 0)) Option.none), (.mk (Option.some 38) (.mv (.tmp 1)) Option.none), (.mk (Option.some 39) (.call 24 [(.tmp 37), (.tmp 38)])
  Option.none), (.mk (Option.some 40) (.eqb Bool.true (.tmp 36) (.tmp 39)) Option.none), (.mk (Option.some 41) (.mv (.tmp 40)) Option.none), (.mk (Option.some 42) (.mv (.tmp 6))
  (Option.some (41, Bool.false))), (.mk (Option.some 43) (.mv (.tmp 8)) (Option.some (41, Bool.false))), (.mk (Option.some 44) (.eqb Bool.true (.tmp 42) (.tmp 43)) (Option.some
  (41, Bool.false))), (.mk (Option.some 45) (.pick (.tmp 41) (.const (.bool Bool.true)) (.tmp 44)) Option.none), (.mk (Option.some 46) (.mv (.tmp 45)) Option.none), (.mk
  (Option.some 47) (.mv (.tmp 5)) (Option.some (46, Bool.false))), (.mk (Option.some 48) (.mv (.tmp 7)) (Option.some (46, Bool.false))), (.mk (Option.some 49) (.call 25 [(.tmp 47),
  (.tmp 48)]) (Option.some (46, Bool.false))), (.mk (Option.some 50) (.un .not (.tmp 49)) (Option.some (46, Bool.false))), (.mk (Option.some 51) (.pick (.tmp 46) (.const (.bool
  Bool.true)) (.tmp 50)) Option.none), (.mk (Option.some 52) (.mv (.tmp 51)) Option.none), (.mk (Option.some 53) (.mv (.tmp 6)) (Option.some (52, Bool.false))), (.mk (Option.some
  54) (.mv (.tmp 53)) (Option.some (52, Bool.false))), (.mk (Option.some 55) (.mv (.tmp 0)) (Option.some (54, Bool.true))), (.mk (Option.some 56) (.mv (.tmp 5)) (Option.some (54,
  Bool.true))), (.mk (Option.some 57) (.call 23 [(.tmp 55), (.tmp 56)]) (Option.some (54, Bool.true))), (.mk (Option.some 58) (.un .not (.tmp 57)) (Option.some (54, Bool.true))),
  (.mk (Option.some 59) (.pick (.tmp 54) (.tmp 58) (.const (.bool Bool.false))) (Option.some (52, Bool.false))), (.mk (Option.some 60) (.pick (.tmp 52) (.const (.bool Bool.true))
  (.tmp 59)) Option.none)]) (.cond (.tmp 60) (.seq (.region [(.mk (Option.some 4) (.mv (.const (.bool Bool.false))) Option.none)]) .ret) .skip)) (.seq (.region [(.mk (Option.some
  61) (.mv (.tmp 0)) Option.none), (.mk (Option.some 62) (.call 26 [(.tmp 61)]) Option.none), (.mk (Option.some 9) (.mv (.tmp 62)) Option.none)]) (.seq (.seq (.region [(.mk
  (Option.some 63) (.mv (.tmp 9)) Option.none), (.mk (Option.some 64) (.len (.tmp 63)) Option.none), (.mk (Option.some 65) (.mv (.const (.int .i64 0))) Option.none)]) (.block 0
  (.loop (.seq (.region [(.mk (Option.some 66) (.bin .lss (.tmp 65) (.tmp 64)) Option.none)]) (.seq (.cond (.tmp 66) .skip (.exit 0)) (.seq (.block 1 (.seq (.region [(.mk
  (Option.some 67) (.mv (.tmp 65)) Option.none), (.mk (Option.some 68) (.atSlice 1 (.tmp 63) (.tmp 65)) Option.none), (.mk (Option.some 69) (.load 1 Bool.false (.tmp 68))
  Option.none), (.mk (Option.some 10) (.mv (.tmp 67)) Option.none), (.mk (Option.some 11) (.mv (.tmp 69)) Option.none)]) (.seq (.seq (.region [(.mk (Option.some 70) (.mv (.tmp 10))
  Option.none), (.mk (Option.some 71) (.bin .gtr (.tmp 70) (.const (.int .i64 0))) Option.none), (.mk (Option.some 72) (.mv (.tmp 71)) Option.none), (.mk (Option.some 73) (.mv
  (.tmp 11)) (Option.some (72, Bool.true))), (.mk (Option.some 74) (.mv (.tmp 9)) (Option.some (72, Bool.true))), (.mk (Option.some 75) (.mv (.tmp 10)) (Option.some (72,
  Bool.true))), (.mk (Option.some 76) (.bin .sub (.tmp 75) (.const (.int .i64 1))) (Option.some (72, Bool.true))), (.mk (Option.some 77) (.atSlice 1 (.tmp 74) (.tmp 76))
  (Option.some (72, Bool.true))), (.mk (Option.some 78) (.load 1 Bool.false (.tmp 77)) (Option.some (72, Bool.true))), (.mk (Option.some 79) (.bin .leq (.tmp 73) (.tmp 78))
  (Option.some (72, Bool.true))), (.mk (Option.some 80) (.pick (.tmp 72) (.tmp 79) (.const (.bool Bool.false))) Option.none)]) (.cond (.tmp 80) (.seq (.region [(.mk (Option.some 4)
  (.mv (.const (.bool Bool.false))) Option.none)]) .ret) .skip)) (.seq (.region [(.mk (Option.some 12) (.mv (.const (.bool Bool.false))) Option.none)]) (.seq (.seq (.region [(.mk
  (Option.some 81) (.mv (.tmp 0)) Option.none), (.mk (Option.some 82) (.len (.tmp 81)) Option.none), (.mk (Option.some 83) (.mv (.const (.int .i64 0))) Option.none)]) (.block 2
  (.loop (.seq (.region [(.mk (Option.some 84) (.bin .lss (.tmp 83) (.tmp 82)) Option.none)]) (.seq (.cond (.tmp 84) .skip (.exit 2)) (.seq (.block 3 (.seq (.region [(.mk
  (Option.some 85) (.atSlice 4 (.tmp 81) (.tmp 83)) Option.none), (.mk (Option.some 86) (.load 4 Bool.true (.tmp 85)) Option.none), (.mk (Option.some 14) (.alloc [(.int .i64 0),
  (.str []), (.int .i64 0), (.int .i64 0)]) Option.none), (.mk Option.none (.store 4 (.tmp 14) (.tmp 86)) Option.none)]) (.region [(.mk (Option.some 87) (.mv (.tmp 12))
  Option.none), (.mk (Option.some 88) (.mv (.tmp 87)) Option.none), (.mk (Option.some 89) (.fieldAddr 1 (.tmp 14)) (Option.some (88, Bool.false))), (.mk (Option.some 90) (.load 1
  Bool.false (.tmp 89)) (Option.some (88, Bool.false))), (.mk (Option.some 91) (.mv (.tmp 11)) (Option.some (88, Bool.false))), (.mk (Option.some 92) (.bin .eql (.tmp 90) (.tmp
  91)) (Option.some (88, Bool.false))), (.mk (Option.some 93) (.pick (.tmp 88) (.const (.bool Bool.true)) (.tmp 92)) Option.none), (.mk (Option.some 12) (.mv (.tmp 93))
  Option.none)]))) (.region [(.mk (Option.some 94) (.bin .add (.tmp 83) (.const (.int .i64 1))) Option.none), (.mk (Option.some 83) (.mv (.tmp 94)) Option.none)]))))))) (.seq
  (.region [(.mk (Option.some 95) (.mv (.tmp 12)) Option.none), (.mk (Option.some 96) (.un .not (.tmp 95)) Option.none)]) (.cond (.tmp 96) (.seq (.region [(.mk (Option.some 4) (.mv
  (.const (.bool Bool.false))) Option.none)]) .ret) .skip))))))) (.region [(.mk (Option.some 97) (.bin .add (.tmp 65) (.const (.int .i64 1))) Option.none), (.mk (Option.some 65)
  (.mv (.tmp 97)) Option.none)]))))))) (.seq (.seq (.region [(.mk (Option.some 98) (.mv (.tmp 0)) Option.none), (.mk (Option.some 99) (.len (.tmp 98)) Option.none), (.mk
  (Option.some 100) (.mv (.const (.int .i64 0))) Option.none)]) (.block 4 (.loop (.seq (.region [(.mk (Option.some 101) (.bin .lss (.tmp 100) (.tmp 99)) Option.none)]) (.seq (.cond
  (.tmp 101) .skip (.exit 4)) (.seq (.block 5 (.seq (.region [(.mk (Option.some 102) (.atSlice 4 (.tmp 98) (.tmp 100)) Option.none), (.mk (Option.some 103) (.load 4 Bool.true (.tmp
  102)) Option.none), (.mk (Option.some 16) (.alloc [(.int .i64 0), (.str []), (.int .i64 0), (.int .i64 0)]) Option.none), (.mk Option.none (.store 4 (.tmp 16) (.tmp 103))
  Option.none)]) (.seq (.region [(.mk (Option.some 17) (.mv (.const (.bool Bool.false))) Option.none)]) (.seq (.seq (.region [(.mk (Option.some 104) (.mv (.tmp 9)) Option.none),
  (.mk (Option.some 105) (.len (.tmp 104)) Option.none), (.mk (Option.some 106) (.mv (.const (.int .i64 0))) Option.none)]) (.block 6 (.loop (.seq (.region [(.mk (Option.some 107)
  (.bin .lss (.tmp 106) (.tmp 105)) Option.none)]) (.seq (.cond (.tmp 107) .skip (.exit 6)) (.seq (.block 7 (.seq (.region [(.mk (Option.some 108) (.atSlice 1 (.tmp 104) (.tmp
  106)) Option.none), (.mk (Option.some 109) (.load 1 Bool.false (.tmp 108)) Option.none), (.mk (Option.some 19) (.mv (.tmp 109)) Option.none)]) (.region [(.mk (Option.some 110)
  (.mv (.tmp 17)) Option.none), (.mk (Option.some 111) (.mv (.tmp 110)) Option.none), (.mk (Option.some 112) (.mv (.tmp 19)) (Option.some (111, Bool.false))), (.mk (Option.some
  113) (.fieldAddr 1 (.tmp 16)) (Option.some (111, Bool.false))), (.mk (Option.some 114) (.load 1 Bool.false (.tmp 113)) (Option.some (111, Bool.false))), (.mk (Option.some 115)
  (.bin .eql (.tmp 112) (.tmp 114)) (Option.some (111, Bool.false))), (.mk (Option.some 116) (.pick (.tmp 111) (.const (.bool Bool.true)) (.tmp 115)) Option.none), (.mk
  (Option.some 17) (.mv (.tmp 116)) Option.none)]))) (.region [(.mk (Option.some 117) (.bin .add (.tmp 106) (.const (.int .i64 1))) Option.none), (.mk (Option.some 106) (.mv (.tmp
  117)) Option.none)]))))))) (.seq (.region [(.mk (Option.some 118) (.mv (.tmp 17)) Option.none), (.mk (Option.some 119) (.un .not (.tmp 118)) Option.none)]) (.cond (.tmp 119)
  (.seq (.region [(.mk (Option.some 4) (.mv (.const (.bool Bool.false))) Option.none)]) .ret) .skip)))))) (.region [(.mk (Option.some 120) (.bin .add (.tmp 100) (.const (.int .i64
  1))) Option.none), (.mk (Option.some 100) (.mv (.tmp 120)) Option.none)]))))))) (.seq (.region [(.mk (Option.some 121) (.call 12 []) Option.none), (.mk (Option.some 4) (.mv (.tmp
  121)) Option.none)]) .ret))))))))) 122 [(.tmp 4)])
def a7 : AFn :=
  (.mk (.seq (.region [(.mk (Option.some 2) (.mv (.const (.slice Option.none 0 0))) Option.none)]) (.seq (.region [(.mk (Option.some 3) (.mv (.const (.slice Option.none 0 0)))
  Option.none)]) (.seq (.seq (.region [(.mk (Option.some 6) (.mv (.tmp 0)) Option.none), (.mk (Option.some 7) (.len (.tmp 6)) Option.none), (.mk (Option.some 8) (.mv (.const (.int
  .i64 0))) Option.none)]) (.block 0 (.loop (.seq (.region [(.mk (Option.some 9) (.bin .lss (.tmp 8) (.tmp 7)) Option.none)]) (.seq (.cond (.tmp 9) .skip (.exit 0)) (.seq (.block 1
  (.seq (.region [(.mk (Option.some 10) (.mv (.tmp 8)) Option.none), (.mk (Option.some 11) (.atSlice 4 (.tmp 6) (.tmp 8)) Option.none), (.mk (Option.some 12) (.load 4 Bool.true
  (.tmp 11)) Option.none), (.mk (Option.some 5) (.alloc [(.int .i64 0), (.str []), (.int .i64 0), (.int .i64 0)]) Option.none), (.mk (Option.some 4) (.mv (.tmp 10)) Option.none),
  (.mk Option.none (.store 4 (.tmp 5) (.tmp 12)) Option.none)]) (.seq (.seq (.region [(.mk (Option.some 13) (.mv (.tmp 4)) Option.none), (.mk (Option.some 14) (.bin .geq (.tmp 13)
  (.const (.int .i64 12))) Option.none)]) (.cond (.tmp 14) (.exit 0) .skip)) (.seq (.seq (.region [(.mk (Option.some 15) (.fieldAddr 1 (.tmp 5)) Option.none), (.mk (Option.some 16)
  (.load 1 Bool.false (.tmp 15)) Option.none), (.mk (Option.some 17) (.lenStr (.tmp 16)) Option.none), (.mk (Option.some 18) (.bin .gtr (.tmp 17) (.const (.int .i64 20)))
  Option.none)]) (.cond (.tmp 18) (.region [(.mk (Option.some 19) (.fieldAddr 1 (.tmp 5)) Option.none), (.mk (Option.some 20) (.load 1 Bool.false (.tmp 19)) Option.none), (.mk
  (Option.some 21) (.cutStr (.tmp 20) Option.none (Option.some (.const (.int .i64 20)))) Option.none), (.mk (Option.some 22) (.fieldAddr 1 (.tmp 5)) Option.none), (.mk Option.none
  (.store 1 (.tmp 22) (.tmp 21)) Option.none)]) .skip)) (.region [(.mk (Option.some 23) (.mv (.tmp 3)) Option.none), (.mk (Option.some 24) (.load 4 Bool.true (.tmp 5))
  Option.none), (.mk (Option.some 25) (.buildSlice 1 4 [(.int .i64 0), (.str []), (.int .i64 0), (.int .i64 0)] [(0, (4, (.tmp 24)))]) Option.none), (.mk (Option.some 26) (.append
  Bool.false 4 40 (.tmp 23) (.tmp 25)) Option.none), (.mk (Option.some 3) (.mv (.tmp 26)) Option.none)]))))) (.region [(.mk (Option.some 27) (.bin .add (.tmp 8) (.const (.int .i64
  1))) Option.none), (.mk (Option.some 8) (.mv (.tmp 27)) Option.none)]))))))) (.seq (.region [(.mk (Option.some 28) (.mv (.tmp 3)) Option.none), (.mk (Option.some 2) (.mv (.tmp
  28)) Option.none)]) .ret)))) 29 [(.tmp 2)])
def a8 : AFn :=
  (.mk (.seq (.region [(.mk (Option.some 3) (.box (.tmp 0)) Option.none), (.mk (Option.some 6) (.mv (.const (.int .i64 0))) Option.none), (.mk (Option.some 7) (.mv (.const (.bool
  Bool.false))) Option.none), (.mk (Option.some 8) (.mv (.const (.int .i64 0))) Option.none), (.mk (Option.some 9) (.mv (.const (.int .i64 0))) Option.none)]) (.seq (.seq (.region
  [(.mk (Option.some 10) (.load 4 Bool.true (.tmp 3)) Option.none), (.mk (Option.some 11) (.call 13 [(.tmp 10)]) Option.none), (.mk (Option.some 12) (.un .not (.tmp 11))
  Option.none)]) (.cond (.tmp 12) (.seq (.region [(.mk (Option.some 6) (.mv (.const (.int .i64 0))) Option.none), (.mk (Option.some 7) (.mv (.const (.bool Bool.false)))
  Option.none), (.mk (Option.some 8) (.mv (.const (.int .i64 0))) Option.none), (.mk (Option.some 9) (.mv (.const (.int .i64 2))) Option.none)]) .ret) .skip)) (.seq (.seq (.region
  [(.mk (Option.some 13) (.mv (.tmp 2)) Option.none), (.mk (Option.some 14) (.un .not (.tmp 13)) Option.none)]) (.cond (.tmp 14) (.region [(.mk (Option.some 1) (.mv (.const (.int
  .i64 0))) Option.none)]) .skip)) (.seq (.seq (.region [(.mk (Option.some 15) (.fieldAddr 0 (.tmp 3)) Option.none), (.mk (Option.some 16) (.load 1 Bool.false (.tmp 15))
  Option.none)]) (.block 0 (.seq (.region [(.mk (Option.some 18) (.bin .eql (.tmp 16) (.const (.int .i64 1))) Option.none), (.mk (Option.some 17) (.mv (.tmp 18)) Option.none)])
  (.cond (.tmp 17) (.seq (.region [(.mk (Option.some 19) (.mv (.tmp 1)) Option.none), (.mk (Option.some 20) (.mv (.tmp 2)) Option.none), (.mk (Option.some 21) (.mv (.tmp 1))
  Option.none), (.mk (Option.some 6) (.mv (.tmp 19)) Option.none), (.mk (Option.some 7) (.mv (.tmp 20)) Option.none), (.mk (Option.some 8) (.mv (.tmp 21)) Option.none), (.mk
  (Option.some 9) (.mv (.const (.int .i64 0))) Option.none)]) .ret) (.seq (.region [(.mk (Option.some 23) (.bin .eql (.tmp 16) (.const (.int .i64 2))) Option.none), (.mk
  (Option.some 22) (.mv (.tmp 23)) Option.none)]) (.cond (.tmp 22) (.seq (.draws [((.mk (Option.some 24) (.fieldAddr 2 (.tmp 3)) Option.none), (0, 8)), ((.mk (Option.some 25)
  (.load 1 Bool.false (.tmp 24)) Option.none), (0, 8)), ((.mk (Option.some 26) (.fieldAddr 2 (.tmp 3)) Option.none), (0, 8)), ((.mk (Option.some 27) (.load 1 Bool.false (.tmp 26))
  Option.none), (0, 8)), ((.mk (Option.some 6) (.mv (.tmp 25)) Option.none), (0, 8)), ((.mk (Option.some 7) (.mv (.const (.bool Bool.true))) Option.none), (0, 8)), ((.mk
  (Option.some 8) (.mv (.tmp 27)) Option.none), (0, 8)), ((.mk (Option.some 9) (.mv (.const (.int .i64 0))) Option.none), (0, 8))]) .ret) (.seq (.region [(.mk (Option.some 29)
  (.bin .eql (.tmp 16) (.const (.int .i64 3))) Option.none), (.mk (Option.some 28) (.mv (.tmp 29)) Option.none)]) (.cond (.tmp 28) (.seq (.region [(.mk (Option.some 30) (.mv (.tmp
  1)) Option.none), (.mk (Option.some 6) (.mv (.const (.int .i64 0))) Option.none), (.mk (Option.some 7) (.mv (.const (.bool Bool.false))) Option.none), (.mk (Option.some 8) (.mv
  (.tmp 30)) Option.none), (.mk (Option.some 9) (.mv (.const (.int .i64 0))) Option.none)]) .ret) (.seq (.region [(.mk (Option.some 32) (.bin .eql (.tmp 16) (.const (.int .i64 6)))
  Option.none), (.mk (Option.some 31) (.mv (.tmp 32)) Option.none)]) (.cond (.tmp 31) (.seq (.draws [((.mk (Option.some 33) (.mv (.tmp 1)) Option.none), (0, 12)), ((.mk
  (Option.some 34) (.fieldAddr 2 (.tmp 3)) Option.none), (0, 12)), ((.mk (Option.some 35) (.load 1 Bool.false (.tmp 34)) Option.none), (0, 12)), ((.mk (Option.some 36) (.bin .add
  (.tmp 33) (.tmp 35)) Option.none), (0, 12)), ((.mk (Option.some 37) (.mv (.tmp 1)) Option.none), (0, 12)), ((.mk (Option.some 38) (.fieldAddr 2 (.tmp 3)) Option.none), (0, 12)),
  ((.mk (Option.some 39) (.load 1 Bool.false (.tmp 38)) Option.none), (0, 12)), ((.mk (Option.some 40) (.bin .add (.tmp 37) (.tmp 39)) Option.none), (0, 12)), ((.mk (Option.some 6)
  (.mv (.tmp 36)) Option.none), (0, 12)), ((.mk (Option.some 7) (.mv (.const (.bool Bool.true))) Option.none), (0, 12)), ((.mk (Option.some 8) (.mv (.tmp 40)) Option.none), (0,
  12)), ((.mk (Option.some 9) (.mv (.const (.int .i64 0))) Option.none), (0, 12))]) .ret) .skip)))))))))) (.seq (.region [(.mk (Option.some 41) (.load 4 Bool.true (.tmp 3))
  Option.none), (.mk (Option.some 42) (.mv (.tmp 1)) Option.none), (.mk (Option.some 43) (.mv (.tmp 2)) Option.none), (.mk (Option.some 44) (.call 27 [(.tmp 41), (.tmp 42), (.tmp
  43)]) Option.none), (.mk (Option.some 45) (.extract (.tmp 44) 0) Option.none), (.mk (Option.some 46) (.extract (.tmp 44) 1) Option.none), (.mk (Option.some 47) (.extract (.tmp
  44) 2) Option.none), (.mk (Option.some 48) (.extract (.tmp 44) 3) Option.none), (.mk (Option.some 6) (.mv (.tmp 45)) Option.none), (.mk (Option.some 7) (.mv (.tmp 46))
  Option.none), (.mk (Option.some 8) (.mv (.tmp 47)) Option.none), (.mk (Option.some 9) (.mv (.tmp 48)) Option.none)]) .ret))))) 49 [(.tmp 6), (.tmp 7), (.tmp 8), (.tmp 9)])
def a9 : AFn :=
  (.mk (.seq (.region [(.mk (Option.some 3) (.box (.tmp 0)) Option.none), (.mk (Option.some 6) (.mv (.const (.int .i64 0))) Option.none), (.mk (Option.some 7) (.mv (.const (.bool
  Bool.false))) Option.none), (.mk (Option.some 8) (.mv (.const (.int .i64 0))) Option.none), (.mk (Option.some 9) (.mv (.const (.int .i64 0))) Option.none)]) (.seq (.seq (.region
  [(.mk (Option.some 13) (.load 4 Bool.true (.tmp 3)) Option.none), (.mk (Option.some 14) (.call 11 [(.tmp 13)]) Option.none), (.mk (Option.some 15) (.un .not (.tmp 14))
  Option.none)]) (.cond (.tmp 15) (.seq (.region [(.mk (Option.some 6) (.mv (.const (.int .i64 0))) Option.none), (.mk (Option.some 7) (.mv (.const (.bool Bool.false)))
  Option.none), (.mk (Option.some 8) (.mv (.const (.int .i64 0))) Option.none), (.mk (Option.some 9) (.mv (.const (.int .i64 2))) Option.none)]) .ret) .skip)) (.seq (.seq (.region
  [(.mk (Option.some 16) (.mv (.tmp 2)) Option.none), (.mk (Option.some 17) (.un .not (.tmp 16)) Option.none)]) (.cond (.tmp 17) (.region [(.mk (Option.some 1) (.mv (.const (.int
  .i64 0))) Option.none)]) .skip)) (.seq (.region [(.mk (Option.some 19) (.mv (.tmp 1)) Option.none), (.mk (Option.some 20) (.fieldAddr 2 (.tmp 3)) Option.none), (.mk (Option.some
  21) (.load 1 Bool.false (.tmp 20)) Option.none), (.mk (Option.some 22) (.call 28 [(.tmp 19), (.tmp 21)]) Option.none), (.mk (Option.some 18) (.mv (.tmp 22)) Option.none), (.mk
  (Option.some 23) (.extract (.tmp 18) 0) Option.none), (.mk (Option.some 24) (.extract (.tmp 18) 1) Option.none), (.mk (Option.some 10) (.mv (.tmp 23)) Option.none), (.mk
  (Option.some 11) (.mv (.tmp 24)) Option.none)]) (.seq (.seq (.region [(.mk (Option.some 25) (.fieldAddr 0 (.tmp 3)) Option.none), (.mk (Option.some 26) (.load 1 Bool.false (.tmp
  25)) Option.none)]) (.block 0 (.seq (.region [(.mk (Option.some 28) (.bin .eql (.tmp 26) (.const (.int .i64 1))) Option.none), (.mk (Option.some 27) (.mv (.tmp 28))
  Option.none)]) (.cond (.tmp 27) (.seq (.region [(.mk (Option.some 29) (.mv (.tmp 1)) Option.none), (.mk (Option.some 30) (.mv (.tmp 2)) Option.none), (.mk (Option.some 31) (.mv
  (.tmp 1)) Option.none), (.mk (Option.some 6) (.mv (.tmp 29)) Option.none), (.mk (Option.some 7) (.mv (.tmp 30)) Option.none), (.mk (Option.some 8) (.mv (.tmp 31)) Option.none),
  (.mk (Option.some 9) (.mv (.const (.int .i64 0))) Option.none)]) .ret) (.seq (.region [(.mk (Option.some 33) (.bin .eql (.tmp 26) (.const (.int .i64 2))) Option.none), (.mk
  (Option.some 32) (.mv (.tmp 33)) Option.none)]) (.cond (.tmp 32) (.seq (.draws [((.mk (Option.some 34) (.fieldAddr 2 (.tmp 3)) Option.none), (0, 8)), ((.mk (Option.some 35)
  (.load 1 Bool.false (.tmp 34)) Option.none), (0, 8)), ((.mk (Option.some 36) (.fieldAddr 2 (.tmp 3)) Option.none), (0, 8)), ((.mk (Option.some 37) (.load 1 Bool.false (.tmp 36))
  Option.none), (0, 8)), ((.mk (Option.some 6) (.mv (.tmp 35)) Option.none), (0, 8)), ((.mk (Option.some 7) (.mv (.const (.bool Bool.true))) Option.none), (0, 8)), ((.mk
  (Option.some 8) (.mv (.tmp 37)) Option.none), (0, 8)), ((.mk (Option.some 9) (.mv (.const (.int .i64 0))) Option.none), (0, 8))]) .ret) (.seq (.region [(.mk (Option.some 39)
  (.bin .eql (.tmp 26) (.const (.int .i64 3))) Option.none), (.mk (Option.some 38) (.mv (.tmp 39)) Option.none)]) (.cond (.tmp 38) (.seq (.region [(.mk (Option.some 40) (.mv (.tmp
  1)) Option.none), (.mk (Option.some 6) (.mv (.const (.int .i64 0))) Option.none), (.mk (Option.some 7) (.mv (.const (.bool Bool.false))) Option.none), (.mk (Option.some 8) (.mv
  (.tmp 40)) Option.none), (.mk (Option.some 9) (.mv (.const (.int .i64 0))) Option.none)]) .ret) (.seq (.region [(.mk (Option.some 42) (.bin .eql (.tmp 26) (.const (.int .i64 6)))
  Option.none), (.mk (Option.some 41) (.mv (.tmp 42)) Option.none)]) (.cond (.tmp 41) (.seq (.region [(.mk (Option.some 43) (.mv (.tmp 1)) Option.none), (.mk (Option.some 44)
  (.conv .u64 (.tmp 43)) Option.none), (.mk (Option.some 45) (.fieldAddr 2 (.tmp 3)) Option.none), (.mk (Option.some 46) (.load 1 Bool.false (.tmp 45)) Option.none), (.mk
  (Option.some 47) (.conv .u64 (.tmp 46)) Option.none), (.mk (Option.some 48) (.bin .add (.tmp 44) (.tmp 47)) Option.none), (.mk (Option.some 49) (.conv .i64 (.tmp 48))
  Option.none), (.mk (Option.some 12) (.mv (.tmp 49)) Option.none)]) (.seq (.region [(.mk (Option.some 50) (.mv (.tmp 12)) Option.none), (.mk (Option.some 51) (.mv (.tmp 12))
  Option.none), (.mk (Option.some 6) (.mv (.tmp 50)) Option.none), (.mk (Option.some 7) (.mv (.const (.bool Bool.true))) Option.none), (.mk (Option.some 8) (.mv (.tmp 51))
  Option.none), (.mk (Option.some 9) (.mv (.const (.int .i64 0))) Option.none)]) .ret)) .skip)))))))))) (.seq (.seq (.region [(.mk (Option.some 52) (.mv (.tmp 11)) Option.none),
  (.mk (Option.some 53) (.un .not (.tmp 52)) Option.none)]) (.cond (.tmp 53) (.seq (.region [(.mk (Option.some 54) (.mv (.tmp 1)) Option.none), (.mk (Option.some 55) (.mv (.tmp 2))
  Option.none), (.mk (Option.some 6) (.mv (.tmp 54)) Option.none), (.mk (Option.some 7) (.mv (.tmp 55)) Option.none), (.mk (Option.some 8) (.mv (.const (.int .i64 0)))
  Option.none), (.mk (Option.some 9) (.mv (.const (.int .i64 25))) Option.none)]) .ret) .skip)) (.seq (.seq (.region [(.mk (Option.some 56) (.fieldAddr 0 (.tmp 3)) Option.none),
  (.mk (Option.some 57) (.load 1 Bool.false (.tmp 56)) Option.none), (.mk (Option.some 58) (.bin .eql (.tmp 57) (.const (.int .i64 5))) Option.none), (.mk (Option.some 59) (.mv
  (.tmp 58)) Option.none), (.mk (Option.some 60) (.mv (.tmp 10)) (Option.some (59, Bool.true))), (.mk (Option.some 61) (.fieldAddr 3 (.tmp 3)) (Option.some (59, Bool.true))), (.mk
  (Option.some 62) (.load 1 Bool.false (.tmp 61)) (Option.some (59, Bool.true))), (.mk (Option.some 63) (.bin .lss (.tmp 60) (.tmp 62)) (Option.some (59, Bool.true))), (.mk
  (Option.some 64) (.pick (.tmp 59) (.tmp 63) (.const (.bool Bool.false))) Option.none)]) (.cond (.tmp 64) (.seq (.region [(.mk (Option.some 65) (.mv (.tmp 1)) Option.none), (.mk
  (Option.some 66) (.mv (.tmp 2)) Option.none), (.mk (Option.some 6) (.mv (.tmp 65)) Option.none), (.mk (Option.some 7) (.mv (.tmp 66)) Option.none), (.mk (Option.some 8) (.mv
  (.const (.int .i64 0))) Option.none), (.mk (Option.some 9) (.mv (.const (.int .i64 24))) Option.none)]) .ret) .skip)) (.seq (.region [(.mk (Option.some 67) (.mv (.tmp 10))
  Option.none), (.mk (Option.some 68) (.mv (.tmp 10)) Option.none), (.mk (Option.some 6) (.mv (.tmp 67)) Option.none), (.mk (Option.some 7) (.mv (.const (.bool Bool.true)))
  Option.none), (.mk (Option.some 8) (.mv (.tmp 68)) Option.none), (.mk (Option.some 9) (.mv (.const (.int .i64 0))) Option.none)]) .ret)))))))) 69 [(.tmp 6), (.tmp 7), (.tmp 8),
  (.tmp 9)])
def a10 : AFn :=
  (.mk (.seq (.region [(.mk (Option.some 2) (.mv (.const (.bool Bool.false))) Option.none)]) (.seq (.region [(.mk (Option.some 3) (.mv (.tmp 0)) Option.none), (.mk (Option.some 4)
  (.call 29 [(.tmp 3), (.func 30)]) Option.none), (.mk (Option.some 5) (.un .not (.tmp 4)) Option.none), (.mk (Option.some 2) (.mv (.tmp 5)) Option.none)]) .ret)) 6 [(.tmp 2)])
def a11 : AFn :=
  (.mk (.seq (.region [(.mk (Option.some 1) (.box (.tmp 0)) Option.none), (.mk (Option.some 2) (.mv (.const (.bool Bool.false))) Option.none)]) (.seq (.seq (.region [(.mk
  (Option.some 3) (.fieldAddr 0 (.tmp 1)) Option.none), (.mk (Option.some 4) (.load 1 Bool.false (.tmp 3)) Option.none), (.mk (Option.some 5) (.bin .lss (.tmp 4) (.const (.int .i64
  1))) Option.none), (.mk (Option.some 6) (.mv (.tmp 5)) Option.none), (.mk (Option.some 7) (.fieldAddr 0 (.tmp 1)) (Option.some (6, Bool.false))), (.mk (Option.some 8) (.load 1
  Bool.false (.tmp 7)) (Option.some (6, Bool.false))), (.mk (Option.some 9) (.bin .gtr (.tmp 8) (.const (.int .i64 6))) (Option.some (6, Bool.false))), (.mk (Option.some 10) (.pick
  (.tmp 6) (.const (.bool Bool.true)) (.tmp 9)) Option.none), (.mk (Option.some 11) (.mv (.tmp 10)) Option.none), (.mk (Option.some 12) (.fieldAddr 3 (.tmp 1)) (Option.some (11,
  Bool.false))), (.mk (Option.some 13) (.load 1 Bool.false (.tmp 12)) (Option.some (11, Bool.false))), (.mk (Option.some 14) (.bin .neq (.tmp 13) (.const (.int .i64 0)))
  (Option.some (11, Bool.false))), (.mk (Option.some 15) (.mv (.tmp 14)) (Option.some (11, Bool.false))), (.mk (Option.some 16) (.fieldAddr 0 (.tmp 1)) (Option.some (15,
  Bool.true))), (.mk (Option.some 17) (.load 1 Bool.false (.tmp 16)) (Option.some (15, Bool.true))), (.mk (Option.some 18) (.bin .neq (.tmp 17) (.const (.int .i64 5))) (Option.some
  (15, Bool.true))), (.mk (Option.some 19) (.pick (.tmp 15) (.tmp 18) (.const (.bool Bool.false))) (Option.some (11, Bool.false))), (.mk (Option.some 20) (.pick (.tmp 11) (.const
  (.bool Bool.true)) (.tmp 19)) Option.none), (.mk (Option.some 21) (.mv (.tmp 20)) Option.none), (.mk (Option.some 22) (.fieldAddr 2 (.tmp 1)) (Option.some (21, Bool.false))),
  (.mk (Option.some 23) (.load 1 Bool.false (.tmp 22)) (Option.some (21, Bool.false))), (.mk (Option.some 24) (.bin .neq (.tmp 23) (.const (.int .i64 0))) (Option.some (21,
  Bool.false))), (.mk (Option.some 25) (.mv (.tmp 24)) (Option.some (21, Bool.false))), (.mk (Option.some 26) (.fieldAddr 0 (.tmp 1)) (Option.some (25, Bool.true))), (.mk
  (Option.some 27) (.load 1 Bool.false (.tmp 26)) (Option.some (25, Bool.true))), (.mk (Option.some 28) (.bin .eql (.tmp 27) (.const (.int .i64 1))) (Option.some (25, Bool.true))),
  (.mk (Option.some 29) (.mv (.tmp 28)) (Option.some (25, Bool.true))), (.mk (Option.some 30) (.fieldAddr 0 (.tmp 1)) (Option.some (29, Bool.false))), (.mk (Option.some 31) (.load
  1 Bool.false (.tmp 30)) (Option.some (29, Bool.false))), (.mk (Option.some 32) (.bin .eql (.tmp 31) (.const (.int .i64 3))) (Option.some (29, Bool.false))), (.mk (Option.some 33)
  (.pick (.tmp 29) (.const (.bool Bool.true)) (.tmp 32)) (Option.some (25, Bool.true))), (.mk (Option.some 34) (.pick (.tmp 25) (.tmp 33) (.const (.bool Bool.false))) (Option.some
  (21, Bool.false))), (.mk (Option.some 35) (.pick (.tmp 21) (.const (.bool Bool.true)) (.tmp 34)) Option.none)]) (.cond (.tmp 35) (.seq (.region [(.mk (Option.some 2) (.mv (.const
  (.bool Bool.false))) Option.none)]) .ret) .skip)) (.seq (.region [(.mk (Option.some 36) (.fieldAddr 1 (.tmp 1)) Option.none), (.mk (Option.some 37) (.load 1 Bool.false (.tmp 36))
  Option.none), (.mk (Option.some 38) (.call 17 [(.tmp 37)]) Option.none), (.mk (Option.some 39) (.mv (.tmp 38)) Option.none), (.mk (Option.some 40) (.fieldAddr 1 (.tmp 1))
  (Option.some (39, Bool.false))), (.mk (Option.some 41) (.load 1 Bool.false (.tmp 40)) (Option.some (39, Bool.false))), (.mk (Option.some 42) (.lenStr (.tmp 41)) (Option.some (39,
  Bool.false))), (.mk (Option.some 43) (.bin .leq (.tmp 42) (.const (.int .i64 16))) (Option.some (39, Bool.false))), (.mk (Option.some 44) (.mv (.tmp 43)) (Option.some (39,
  Bool.false))), (.mk (Option.some 45) (.fieldAddr 1 (.tmp 1)) (Option.some (44, Bool.true))), (.mk (Option.some 46) (.load 1 Bool.false (.tmp 45)) (Option.some (44, Bool.true))),
  (.mk (Option.some 47) (.lenStr (.tmp 46)) (Option.some (44, Bool.true))), (.mk (Option.some 48) (.bin .gtr (.tmp 47) (.const (.int .i64 1))) (Option.some (44, Bool.true))), (.mk
  (Option.some 49) (.pick (.tmp 44) (.tmp 48) (.const (.bool Bool.false))) (Option.some (39, Bool.false))), (.mk (Option.some 50) (.mv (.tmp 49)) (Option.some (39, Bool.false))),
  (.mk (Option.some 51) (.fieldAddr 1 (.tmp 1)) (Option.some (50, Bool.true))), (.mk (Option.some 52) (.load 1 Bool.false (.tmp 51)) (Option.some (50, Bool.true))), (.mk
  (Option.some 53) (.byteAt (.tmp 52) (.const (.int .i64 0))) (Option.some (50, Bool.true))), (.mk (Option.some 54) (.bin .eql (.tmp 53) (.const (.int .u8 126))) (Option.some (50,
  Bool.true))), (.mk (Option.some 55) (.pick (.tmp 50) (.tmp 54) (.const (.bool Bool.false))) (Option.some (39, Bool.false))), (.mk (Option.some 56) (.mv (.tmp 55)) (Option.some
  (39, Bool.false))), (.mk (Option.some 57) (.fieldAddr 1 (.tmp 1)) (Option.some (56, Bool.true))), (.mk (Option.some 58) (.load 1 Bool.false (.tmp 57)) (Option.some (56,
  Bool.true))), (.mk (Option.some 59) (.cutStr (.tmp 58) (Option.some (.const (.int .i64 1))) Option.none) (Option.some (56, Bool.true))), (.mk (Option.some 60) (.call 32 [(.tmp
  59)]) (Option.some (56, Bool.true))), (.mk (Option.some 61) (.pick (.tmp 56) (.tmp 60) (.const (.bool Bool.false))) (Option.some (39, Bool.false))), (.mk (Option.some 62) (.pick
  (.tmp 39) (.const (.bool Bool.true)) (.tmp 61)) Option.none), (.mk (Option.some 2) (.mv (.tmp 62)) Option.none)]) .ret))) 63 [(.tmp 2)])
def a12 : AFn :=
  (.mk (.seq (.region [(.mk (Option.some 0) (.mv (.const (.bool Bool.false))) Option.none)]) (.seq (.region [(.mk (Option.some 11) (.call 33 [(.const (.string (ByteArray.mk #[97,
  100, 100, 32, 120, 32, 53, 59, 32, 109, 105, 110, 32, 121, 32, 45, 51, 32, 48])))]) Option.none), (.mk (Option.some 10) (.mv (.tmp 11)) Option.none), (.mk (Option.some 12)
  (.extract (.tmp 10) 0) Option.none), (.mk (Option.some 13) (.extract (.tmp 10) 1) Option.none), (.mk (Option.some 14) (.extract (.tmp 10) 2) Option.none), (.mk (Option.some 1)
  (.mv (.tmp 12)) Option.none), (.mk (Option.some 2) (.mv (.tmp 13)) Option.none), (.mk (Option.some 3) (.mv (.tmp 14)) Option.none)]) (.seq (.seq (.region [(.mk (Option.some 15)
  (.mv (.tmp 3)) Option.none), (.mk (Option.some 16) (.bin .neq (.tmp 15) (.const (.int .i64 0))) Option.none), (.mk (Option.some 17) (.mv (.tmp 16)) Option.none), (.mk
  (Option.some 18) (.mv (.tmp 2)) (Option.some (17, Bool.false))), (.mk (Option.some 19) (.bin .neq (.tmp 18) (.const (.int .i64 0))) (Option.some (17, Bool.false))), (.mk
  (Option.some 20) (.pick (.tmp 17) (.const (.bool Bool.true)) (.tmp 19)) Option.none), (.mk (Option.some 21) (.mv (.tmp 20)) Option.none), (.mk (Option.some 22) (.mv (.tmp 1))
  (Option.some (21, Bool.false))), (.mk (Option.some 23) (.len (.tmp 22)) (Option.some (21, Bool.false))), (.mk (Option.some 24) (.bin .neq (.tmp 23) (.const (.int .i64 2)))
  (Option.some (21, Bool.false))), (.mk (Option.some 25) (.pick (.tmp 21) (.const (.bool Bool.true)) (.tmp 24)) Option.none), (.mk (Option.some 26) (.mv (.tmp 25)) Option.none),
  (.mk (Option.some 27) (.mv (.tmp 1)) (Option.some (26, Bool.false))), (.mk (Option.some 28) (.atSlice 4 (.tmp 27) (.const (.int .i64 1))) (Option.some (26, Bool.false))), (.mk
  (Option.some 29) (.load 4 Bool.true (.tmp 28)) (Option.some (26, Bool.false))), (.mk (Option.some 30) (.build [(.int .i64 0), (.str []), (.int .i64 0), (.int .i64 0)] [(0, (1,
  (.const (.int .i64 5)))), (1, (1, (.const (.string (ByteArray.mk #[121]))))), (2, (1, (.const (.int .i64 (-3)))))]) (Option.some (26, Bool.false))), (.mk (Option.some 31) (.eqAgg
  Bool.true [(.int .i64), .str, (.int .i64), (.int .i64)] (.tmp 29) (.tmp 30)) (Option.some (26, Bool.false))), (.mk (Option.some 32) (.pick (.tmp 26) (.const (.bool Bool.true))
  (.tmp 31)) Option.none)]) (.cond (.tmp 32) (.seq (.region [(.mk (Option.some 0) (.mv (.const (.bool Bool.false))) Option.none)]) .ret) .skip)) (.seq (.region [(.mk (Option.some
  34) (.mv (.tmp 1)) Option.none), (.mk (Option.some 35) (.atSlice 4 (.tmp 34) (.const (.int .i64 1))) Option.none), (.mk (Option.some 36) (.load 4 Bool.true (.tmp 35))
  Option.none), (.mk (Option.some 37) (.call 8 [(.tmp 36), (.const (.int .i64 2)), (.const (.bool Bool.true))]) Option.none), (.mk (Option.some 33) (.mv (.tmp 37)) Option.none),
  (.mk (Option.some 38) (.extract (.tmp 33) 0) Option.none), (.mk (Option.some 39) (.extract (.tmp 33) 1) Option.none), (.mk (Option.some 40) (.extract (.tmp 33) 2) Option.none),
  (.mk (Option.some 41) (.extract (.tmp 33) 3) Option.none), (.mk (Option.some 4) (.mv (.tmp 38)) Option.none), (.mk (Option.some 5) (.mv (.tmp 39)) Option.none), (.mk (Option.some
  6) (.mv (.tmp 40)) Option.none), (.mk (Option.some 7) (.mv (.tmp 41)) Option.none)]) (.seq (.region [(.mk (Option.some 43) (.mv (.tmp 1)) Option.none), (.mk (Option.some 44)
  (.call 19 [(.tmp 43)]) Option.none), (.mk (Option.some 42) (.mv (.tmp 44)) Option.none), (.mk (Option.some 45) (.extract (.tmp 42) 0) Option.none), (.mk (Option.some 46)
  (.extract (.tmp 42) 1) Option.none), (.mk (Option.some 8) (.mv (.tmp 45)) Option.none), (.mk (Option.some 9) (.mv (.tmp 46)) Option.none)]) (.seq (.region [(.mk (Option.some 47)
  (.mv (.tmp 4)) Option.none), (.mk (Option.some 48) (.bin .eql (.tmp 47) (.const (.int .i64 2))) Option.none), (.mk (Option.some 49) (.mv (.tmp 48)) Option.none), (.mk
  (Option.some 50) (.mv (.tmp 5)) (Option.some (49, Bool.true))), (.mk (Option.some 51) (.pick (.tmp 49) (.tmp 50) (.const (.bool Bool.false))) Option.none), (.mk (Option.some 52)
  (.mv (.tmp 51)) Option.none), (.mk (Option.some 53) (.mv (.tmp 6)) (Option.some (52, Bool.true))), (.mk (Option.some 54) (.bin .eql (.tmp 53) (.const (.int .i64 0))) (Option.some
  (52, Bool.true))), (.mk (Option.some 55) (.pick (.tmp 52) (.tmp 54) (.const (.bool Bool.false))) Option.none), (.mk (Option.some 56) (.mv (.tmp 55)) Option.none), (.mk
  (Option.some 57) (.mv (.tmp 7)) (Option.some (56, Bool.true))), (.mk (Option.some 58) (.bin .eql (.tmp 57) (.const (.int .i64 24))) (Option.some (56, Bool.true))), (.mk
  (Option.some 59) (.pick (.tmp 56) (.tmp 58) (.const (.bool Bool.false))) Option.none), (.mk (Option.some 60) (.mv (.tmp 59)) Option.none), (.mk (Option.some 61) (.mv (.tmp 9))
  (Option.some (60, Bool.true))), (.mk (Option.some 62) (.pick (.tmp 60) (.tmp 61) (.const (.bool Bool.false))) Option.none), (.mk (Option.some 63) (.mv (.tmp 62)) Option.none),
  (.mk (Option.some 64) (.mv (.tmp 8)) (Option.some (63, Bool.true))), (.mk (Option.some 65) (.call 34 [(.tmp 64)]) (Option.some (63, Bool.true))), (.mk (Option.some 66) (.bin .eql
  (.tmp 65) (.const (.string (ByteArray.mk #[98, 97, 99, 107, 32, 121, 32, 51, 59, 32, 98, 97, 99, 107, 32, 120, 32, 45, 53])))) (Option.some (63, Bool.true))), (.mk (Option.some
  67) (.pick (.tmp 63) (.tmp 66) (.const (.bool Bool.false))) Option.none), (.mk (Option.some 68) (.mv (.tmp 67)) Option.none), (.mk (Option.some 69) (.mv (.tmp 1)) (Option.some
  (68, Bool.true))), (.mk (Option.some 70) (.mv (.tmp 8)) (Option.some (68, Bool.true))), (.mk (Option.some 71) (.call 23 [(.tmp 69), (.tmp 70)]) (Option.some (68, Bool.true))),
  (.mk (Option.some 72) (.pick (.tmp 68) (.tmp 71) (.const (.bool Bool.false))) Option.none), (.mk (Option.some 0) (.mv (.tmp 72)) Option.none)]) .ret)))))) 73 [(.tmp 0)])
def a13 : AFn :=
  (.mk (.seq (.region [(.mk (Option.some 1) (.box (.tmp 0)) Option.none), (.mk (Option.some 2) (.mv (.const (.bool Bool.false))) Option.none)]) (.seq (.region [(.mk (Option.some 3)
  (.load 4 Bool.true (.tmp 1)) Option.none), (.mk (Option.some 4) (.call 31 [(.tmp 3)]) Option.none), (.mk (Option.some 5) (.mv (.tmp 4)) Option.none), (.mk (Option.some 6)
  (.fieldAddr 1 (.tmp 1)) (Option.some (5, Bool.true))), (.mk (Option.some 7) (.load 1 Bool.false (.tmp 6)) (Option.some (5, Bool.true))), (.mk (Option.some 8) (.call 16 [(.tmp
  7)]) (Option.some (5, Bool.true))), (.mk (Option.some 9) (.mv (.tmp 8)) (Option.some (5, Bool.true))), (.mk (Option.some 10) (.fieldAddr 1 (.tmp 1)) (Option.some (9,
  Bool.false))), (.mk (Option.some 11) (.load 1 Bool.false (.tmp 10)) (Option.some (9, Bool.false))), (.mk (Option.some 12) (.call 35 [(.tmp 11)]) (Option.some (9, Bool.false))),
  (.mk (Option.some 13) (.pick (.tmp 9) (.const (.bool Bool.true)) (.tmp 12)) (Option.some (5, Bool.true))), (.mk (Option.some 14) (.pick (.tmp 5) (.tmp 13) (.const (.bool
  Bool.false))) Option.none), (.mk (Option.some 2) (.mv (.tmp 14)) Option.none)]) .ret)) 15 [(.tmp 2)])
def a14 : AFn :=
  (.mk (.seq (.region [(.mk (Option.some 2) (.mv (.const (.int .i64 0))) Option.none)]) (.seq (.region [(.mk (Option.some 3) (.mv (.tmp 0)) Option.none), (.mk (Option.some 4) (.call
  37 [(.tmp 3)]) Option.none), (.mk (Option.some 5) (.call 36 [(.tmp 4)]) Option.none), (.mk (Option.some 2) (.mv (.tmp 5)) Option.none)]) .ret)) 6 [(.tmp 2)])
def a15 : AFn :=
  (.mk (.seq (.region [(.mk (Option.some 2) (.mv (.const (.int .i64 0))) Option.none)]) (.seq (.seq (.region [(.mk (Option.some 5) (.mv (.tmp 0)) Option.none), (.mk (Option.some 6)
  (.len (.tmp 5)) Option.none), (.mk (Option.some 7) (.bin .gtr (.tmp 6) (.const (.int .i64 8))) Option.none)]) (.cond (.tmp 7) (.seq (.region [(.mk (Option.some 2) (.mv (.const
  (.int .i64 7))) Option.none)]) .ret) .skip)) (.seq (.seq (.region [(.mk (Option.some 8) (.mv (.tmp 0)) Option.none), (.mk (Option.some 9) (.len (.tmp 8)) Option.none), (.mk
  (Option.some 10) (.mv (.const (.int .i64 0))) Option.none)]) (.block 0 (.loop (.seq (.region [(.mk (Option.some 11) (.bin .lss (.tmp 10) (.tmp 9)) Option.none)]) (.seq (.cond
  (.tmp 11) .skip (.exit 0)) (.seq (.block 1 (.seq (.region [(.mk (Option.some 12) (.atSlice 4 (.tmp 8) (.tmp 10)) Option.none), (.mk (Option.some 13) (.load 4 Bool.true (.tmp 12))
  Option.none), (.mk (Option.some 4) (.alloc [(.int .i64 0), (.str []), (.int .i64 0), (.int .i64 0)]) Option.none), (.mk Option.none (.store 4 (.tmp 4) (.tmp 13)) Option.none)])
  (.seq (.region [(.mk (Option.some 14) (.load 4 Bool.true (.tmp 4)) Option.none), (.mk (Option.some 15) (.call 11 [(.tmp 14)]) Option.none), (.mk (Option.some 16) (.un .not (.tmp
  15)) Option.none), (.mk (Option.some 17) (.mv (.tmp 16)) Option.none), (.mk (Option.some 18) (.fieldAddr 1 (.tmp 4)) (Option.some (17, Bool.false))), (.mk (Option.some 19) (.load
  1 Bool.false (.tmp 18)) (Option.some (17, Bool.false))), (.mk (Option.some 20) (.call 17 [(.tmp 19)]) (Option.some (17, Bool.false))), (.mk (Option.some 21) (.un .not (.tmp 20))
  (Option.some (17, Bool.false))), (.mk (Option.some 22) (.pick (.tmp 17) (.const (.bool Bool.true)) (.tmp 21)) Option.none)]) (.cond (.tmp 22) (.seq (.region [(.mk (Option.some 2)
  (.mv (.const (.int .i64 2))) Option.none)]) .ret) .skip)))) (.region [(.mk (Option.some 23) (.bin .add (.tmp 10) (.const (.int .i64 1))) Option.none), (.mk (Option.some 10) (.mv
  (.tmp 23)) Option.none)]))))))) (.seq (.region [(.mk (Option.some 2) (.mv (.const (.int .i64 0))) Option.none)]) .ret)))) 24 [(.tmp 2)])
def a16 : AFn :=
  (.mk (.seq (.region [(.mk (Option.some 2) (.mv (.const (.bool Bool.false))) Option.none)]) (.seq (.region [(.mk (Option.some 3) (.mv (.tmp 0)) Option.none), (.mk (Option.some 4)
  (.lenStr (.tmp 3)) Option.none), (.mk (Option.some 5) (.bin .leq (.tmp 4) (.const (.int .i64 16))) Option.none), (.mk (Option.some 6) (.mv (.tmp 5)) Option.none), (.mk
  (Option.some 7) (.mv (.tmp 0)) (Option.some (6, Bool.true))), (.mk (Option.some 8) (.call 38 [(.tmp 7)]) (Option.some (6, Bool.true))), (.mk (Option.some 9) (.pick (.tmp 6) (.tmp
  8) (.const (.bool Bool.false))) Option.none), (.mk (Option.some 2) (.mv (.tmp 9)) Option.none)]) .ret)) 10 [(.tmp 2)])
def a17 : AFn :=
  (.mk (.seq (.region [(.mk (Option.some 2) (.mv (.const (.bool Bool.false))) Option.none)]) (.seq (.region [(.mk (Option.some 3) (.mv (.tmp 0)) Option.none), (.mk (Option.some 4)
  (.lenStr (.tmp 3)) Option.none), (.mk (Option.some 5) (.bin .leq (.tmp 4) (.const (.int .i64 16))) Option.none), (.mk (Option.some 6) (.mv (.tmp 5)) Option.none), (.mk
  (Option.some 7) (.mv (.tmp 0)) (Option.some (6, Bool.true))), (.mk (Option.some 8) (.call 32 [(.tmp 7)]) (Option.some (6, Bool.true))), (.mk (Option.some 9) (.pick (.tmp 6) (.tmp
  8) (.const (.bool Bool.false))) Option.none), (.mk (Option.some 2) (.mv (.tmp 9)) Option.none)]) .ret)) 10 [(.tmp 2)])
def a18 : AFn :=
  (.mk (.seq (.region [(.mk (Option.some 8) (.mv (.const (.slice Option.none 0 0))) Option.none)]) (.seq (.region [(.mk (Option.some 9) (.mv (.const (.slice Option.none 0 0)))
  Option.none)]) (.seq (.seq (.region [(.mk (Option.some 12) (.mv (.tmp 0)) Option.none), (.mk (Option.some 13) (.len (.tmp 12)) Option.none), (.mk (Option.some 14) (.mv (.const
  (.int .i64 0))) Option.none)]) (.block 0 (.loop (.seq (.region [(.mk (Option.some 15) (.bin .lss (.tmp 14) (.tmp 13)) Option.none)]) (.seq (.cond (.tmp 15) .skip (.exit 0)) (.seq
  (.block 1 (.seq (.region [(.mk (Option.some 16) (.atSlice 2 (.tmp 12) (.tmp 14)) Option.none), (.mk (Option.some 17) (.load 2 Bool.true (.tmp 16)) Option.none), (.mk (Option.some
  11) (.alloc [(.str []), (.int .i64 0)]) Option.none), (.mk Option.none (.store 2 (.tmp 11) (.tmp 17)) Option.none)]) (.seq (.region [(.mk (Option.some 18) (.fieldAddr 0 (.tmp
  11)) Option.none), (.mk (Option.some 19) (.load 1 Bool.false (.tmp 18)) Option.none), (.mk (Option.some 20) (.mv (.tmp 1)) Option.none), (.mk (Option.some 21) (.bin .neq (.tmp
  19) (.tmp 20)) Option.none)]) (.cond (.tmp 21) (.region [(.mk (Option.some 22) (.mv (.tmp 9)) Option.none), (.mk (Option.some 23) (.load 2 Bool.true (.tmp 11)) Option.none), (.mk
  (Option.some 24) (.buildSlice 1 2 [(.str []), (.int .i64 0)] [(0, (2, (.tmp 23)))]) Option.none), (.mk (Option.some 25) (.append Bool.false 2 24 (.tmp 22) (.tmp 24))
  Option.none), (.mk (Option.some 9) (.mv (.tmp 25)) Option.none)]) .skip)))) (.region [(.mk (Option.some 26) (.bin .add (.tmp 14) (.const (.int .i64 1))) Option.none), (.mk
  (Option.some 14) (.mv (.tmp 26)) Option.none)]))))))) (.seq (.seq (.region [(.mk (Option.some 27) (.mv (.tmp 3)) Option.none)]) (.cond (.tmp 27) (.region [(.mk (Option.some 28)
  (.mv (.tmp 9)) Option.none), (.mk (Option.some 29) (.mv (.tmp 1)) Option.none), (.mk (Option.some 30) (.mv (.tmp 2)) Option.none), (.mk (Option.some 31) (.build [(.str []), (.int
  .i64 0)] [(0, (1, (.tmp 29))), (1, (1, (.tmp 30)))]) Option.none), (.mk (Option.some 32) (.buildSlice 1 2 [(.str []), (.int .i64 0)] [(0, (2, (.tmp 31)))]) Option.none), (.mk
  (Option.some 33) (.append Bool.false 2 24 (.tmp 28) (.tmp 32)) Option.none), (.mk (Option.some 9) (.mv (.tmp 33)) Option.none)]) .skip)) (.seq (.region [(.mk (Option.some 34)
  (.mv (.tmp 9)) Option.none), (.mk (Option.some 8) (.mv (.tmp 34)) Option.none)]) .ret))))) 35 [(.tmp 8)])
def a19 : AFn :=
  (.mk (.seq (.region [(.mk (Option.some 2) (.mv (.const (.slice Option.none 0 0))) Option.none), (.mk (Option.some 3) (.mv (.const (.bool Bool.false))) Option.none)]) (.seq (.seq
  (.region [(.mk (Option.some 6) (.mv (.tmp 0)) Option.none), (.mk (Option.some 7) (.buildSlice 4 1 [(.int .i64 0), (.int .i64 0), (.int .i64 0), (.int .i64 0)] [(0, (1, (.const
  (.int .i64 1)))), (1, (1, (.const (.int .i64 4)))), (2, (1, (.const (.int .i64 5)))), (3, (1, (.const (.int .i64 6))))]) Option.none), (.mk (Option.some 8) (.call 39 [(.tmp 6),
  (.tmp 7)]) Option.none), (.mk (Option.some 9) (.un .not (.tmp 8)) Option.none), (.mk (Option.some 10) (.mv (.tmp 9)) Option.none), (.mk (Option.some 11) (.mv (.tmp 0))
  (Option.some (10, Bool.false))), (.mk (Option.some 12) (.call 29 [(.tmp 11), (.func 40)]) (Option.some (10, Bool.false))), (.mk (Option.some 13) (.pick (.tmp 10) (.const (.bool
  Bool.true)) (.tmp 12)) Option.none)]) (.cond (.tmp 13) (.seq (.region [(.mk (Option.some 2) (.mv (.const (.slice Option.none 0 0))) Option.none), (.mk (Option.some 3) (.mv
  (.const (.bool Bool.false))) Option.none)]) .ret) .skip)) (.seq (.region [(.mk (Option.some 4) (.mv (.const (.slice Option.none 0 0))) Option.none)]) (.seq (.seq (.region [(.mk
  (Option.some 14) (.mv (.tmp 0)) Option.none), (.mk (Option.some 15) (.len (.tmp 14)) Option.none), (.mk (Option.some 16) (.bin .sub (.tmp 15) (.const (.int .i64 1)))
  Option.none), (.mk (Option.some 5) (.mv (.tmp 16)) Option.none)]) (.block 0 (.loop (.seq (.seq (.region [(.mk (Option.some 17) (.mv (.tmp 5)) Option.none), (.mk (Option.some 18)
  (.bin .geq (.tmp 17) (.const (.int .i64 0))) Option.none)]) (.cond (.tmp 18) .skip (.exit 0))) (.seq (.block 1 (.seq (.region [(.mk (Option.some 21) (.mv (.tmp 0)) Option.none),
  (.mk (Option.some 22) (.mv (.tmp 5)) Option.none), (.mk (Option.some 23) (.atSlice 4 (.tmp 21) (.tmp 22)) Option.none), (.mk (Option.some 24) (.fieldAddr 0 (.tmp 23))
  Option.none), (.mk (Option.some 25) (.load 1 Bool.false (.tmp 24)) Option.none), (.mk (Option.some 26) (.bin .neq (.tmp 25) (.const (.int .i64 1))) Option.none)]) (.cond (.tmp
  26) (.draws [((.mk (Option.some 27) (.mv (.tmp 4)) Option.none), (0, 14)), ((.mk (Option.some 28) (.mv (.tmp 0)) Option.none), (0, 13)), ((.mk (Option.some 29) (.mv (.tmp 5))
  Option.none), (0, 13)), ((.mk (Option.some 30) (.atSlice 4 (.tmp 28) (.tmp 29)) Option.none), (0, 13)), ((.mk (Option.some 31) (.fieldAddr 1 (.tmp 30)) Option.none), (0, 13)),
  ((.mk (Option.some 32) (.load 1 Bool.false (.tmp 31)) Option.none), (0, 13)), ((.mk (Option.some 33) (.mv (.tmp 0)) Option.none), (0, 13)), ((.mk (Option.some 34) (.mv (.tmp 5))
  Option.none), (0, 13)), ((.mk (Option.some 35) (.atSlice 4 (.tmp 33) (.tmp 34)) Option.none), (0, 13)), ((.mk (Option.some 36) (.fieldAddr 2 (.tmp 35)) Option.none), (0, 13)),
  ((.mk (Option.some 37) (.load 1 Bool.false (.tmp 36)) Option.none), (0, 13)), ((.mk (Option.some 38) (.un .neg (.tmp 37)) Option.none), (0, 13)), ((.mk (Option.some 39) (.build
  [(.int .i64 0), (.str []), (.int .i64 0), (.int .i64 0)] [(0, (1, (.const (.int .i64 6)))), (1, (1, (.tmp 32))), (2, (1, (.tmp 38)))]) Option.none), (0, 13)), ((.mk (Option.some
  40) (.buildSlice 1 4 [(.int .i64 0), (.str []), (.int .i64 0), (.int .i64 0)] [(0, (4, (.tmp 39)))]) Option.none), (0, 14)), ((.mk (Option.some 41) (.append Bool.false 4 40 (.tmp
  27) (.tmp 40)) Option.none), (14, 16)), ((.mk (Option.some 4) (.mv (.tmp 41)) Option.none), (15, 16))]) .skip))) (.region [(.mk (Option.some 19) (.mv (.tmp 5)) Option.none), (.mk
  (Option.some 20) (.bin .sub (.tmp 19) (.const (.int .i64 1))) Option.none), (.mk (Option.some 5) (.mv (.tmp 20)) Option.none)])))))) (.seq (.region [(.mk (Option.some 42) (.mv
  (.tmp 4)) Option.none), (.mk (Option.some 2) (.mv (.tmp 42)) Option.none), (.mk (Option.some 3) (.mv (.const (.bool Bool.true))) Option.none)]) .ret))))) 43 [(.tmp 2), (.tmp 3)])
def a20 : AFn :=
  (.mk (.seq (.region [(.mk (Option.some 4) (.mv (.const (.slice Option.none 0 0))) Option.none), (.mk (Option.some 5) (.mv (.const (.bool Bool.false))) Option.none)]) (.seq (.seq
  (.region [(.mk (Option.some 14) (.mv (.tmp 1)) Option.none), (.mk (Option.some 15) (.len (.tmp 14)) Option.none), (.mk (Option.some 16) (.mv (.const (.int .i64 0)))
  Option.none)]) (.block 0 (.loop (.seq (.region [(.mk (Option.some 17) (.bin .lss (.tmp 16) (.tmp 15)) Option.none)]) (.seq (.cond (.tmp 17) .skip (.exit 0)) (.seq (.block 1 (.seq
  (.region [(.mk (Option.some 18) (.atSlice 4 (.tmp 14) (.tmp 16)) Option.none), (.mk (Option.some 19) (.load 4 Bool.true (.tmp 18)) Option.none), (.mk (Option.some 7) (.alloc
  [(.int .i64 0), (.str []), (.int .i64 0), (.int .i64 0)]) Option.none), (.mk Option.none (.store 4 (.tmp 7) (.tmp 19)) Option.none)]) (.seq (.region [(.mk (Option.some 21) (.mv
  (.tmp 0)) Option.none), (.mk (Option.some 22) (.fieldAddr 1 (.tmp 7)) Option.none), (.mk (Option.some 23) (.load 1 Bool.false (.tmp 22)) Option.none), (.mk (Option.some 24)
  (.call 21 [(.tmp 21), (.tmp 23)]) Option.none), (.mk (Option.some 20) (.mv (.tmp 24)) Option.none), (.mk (Option.some 25) (.extract (.tmp 20) 0) Option.none), (.mk (Option.some
  26) (.extract (.tmp 20) 1) Option.none), (.mk (Option.some 8) (.mv (.tmp 25)) Option.none), (.mk (Option.some 9) (.mv (.tmp 26)) Option.none)]) (.seq (.region [(.mk (Option.some
  28) (.load 4 Bool.true (.tmp 7)) Option.none), (.mk (Option.some 29) (.mv (.tmp 8)) Option.none), (.mk (Option.some 30) (.mv (.tmp 9)) Option.none), (.mk (Option.some 31) (.call
  8 [(.tmp 28), (.tmp 29), (.tmp 30)]) Option.none), (.mk (Option.some 27) (.mv (.tmp 31)) Option.none), (.mk (Option.some 32) (.extract (.tmp 27) 0) Option.none), (.mk
  (Option.some 33) (.extract (.tmp 27) 1) Option.none), (.mk (Option.some 34) (.extract (.tmp 27) 2) Option.none), (.mk (Option.some 35) (.extract (.tmp 27) 3) Option.none), (.mk
  (Option.some 10) (.mv (.tmp 32)) Option.none), (.mk (Option.some 11) (.mv (.tmp 33)) Option.none), (.mk (Option.some 12) (.mv (.tmp 34)) Option.none), (.mk (Option.some 13) (.mv
  (.tmp 35)) Option.none)]) (.seq (.seq (.region [(.mk (Option.some 36) (.mv (.tmp 13)) Option.none), (.mk (Option.some 37) (.bin .neq (.tmp 36) (.const (.int .i64 0)))
  Option.none)]) (.cond (.tmp 37) (.seq (.region [(.mk (Option.some 38) (.mv (.tmp 0)) Option.none), (.mk (Option.some 4) (.mv (.tmp 38)) Option.none), (.mk (Option.some 5) (.mv
  (.const (.bool Bool.false))) Option.none)]) .ret) .skip)) (.region [(.mk (Option.some 39) (.mv (.tmp 0)) Option.none), (.mk (Option.some 40) (.fieldAddr 1 (.tmp 7)) Option.none),
  (.mk (Option.some 41) (.load 1 Bool.false (.tmp 40)) Option.none), (.mk (Option.some 42) (.mv (.tmp 10)) Option.none), (.mk (Option.some 43) (.mv (.tmp 11)) Option.none), (.mk
  (Option.some 44) (.call 18 [(.tmp 39), (.tmp 41), (.tmp 42), (.tmp 43)]) Option.none), (.mk (Option.some 0) (.mv (.tmp 44)) Option.none)])))))) (.region [(.mk (Option.some 45)
  (.bin .add (.tmp 16) (.const (.int .i64 1))) Option.none), (.mk (Option.some 16) (.mv (.tmp 45)) Option.none)]))))))) (.seq (.region [(.mk (Option.some 46) (.mv (.tmp 0))
  Option.none), (.mk (Option.some 4) (.mv (.tmp 46)) Option.none), (.mk (Option.some 5) (.mv (.const (.bool Bool.true))) Option.none)]) .ret))) 47 [(.tmp 4), (.tmp 5)])
def a21 : AFn :=
  (.mk (.seq (.region [(.mk (Option.some 4) (.mv (.const (.int .i64 0))) Option.none), (.mk (Option.some 5) (.mv (.const (.bool Bool.false))) Option.none)]) (.seq (.seq (.region
  [(.mk (Option.some 8) (.mv (.tmp 0)) Option.none), (.mk (Option.some 9) (.len (.tmp 8)) Option.none), (.mk (Option.some 10) (.mv (.const (.int .i64 0))) Option.none)]) (.block 0
  (.loop (.seq (.region [(.mk (Option.some 11) (.bin .lss (.tmp 10) (.tmp 9)) Option.none)]) (.seq (.cond (.tmp 11) .skip (.exit 0)) (.seq (.block 1 (.seq (.region [(.mk
  (Option.some 12) (.atSlice 2 (.tmp 8) (.tmp 10)) Option.none), (.mk (Option.some 13) (.load 2 Bool.true (.tmp 12)) Option.none), (.mk (Option.some 7) (.alloc [(.str []), (.int
  .i64 0)]) Option.none), (.mk Option.none (.store 2 (.tmp 7) (.tmp 13)) Option.none)]) (.seq (.region [(.mk (Option.some 14) (.fieldAddr 0 (.tmp 7)) Option.none), (.mk
  (Option.some 15) (.load 1 Bool.false (.tmp 14)) Option.none), (.mk (Option.some 16) (.mv (.tmp 1)) Option.none), (.mk (Option.some 17) (.bin .eql (.tmp 15) (.tmp 16))
  Option.none)]) (.cond (.tmp 17) (.seq (.region [(.mk (Option.some 18) (.fieldAddr 1 (.tmp 7)) Option.none), (.mk (Option.some 19) (.load 1 Bool.false (.tmp 18)) Option.none),
  (.mk (Option.some 4) (.mv (.tmp 19)) Option.none), (.mk (Option.some 5) (.mv (.const (.bool Bool.true))) Option.none)]) .ret) .skip)))) (.region [(.mk (Option.some 20) (.bin .add
  (.tmp 10) (.const (.int .i64 1))) Option.none), (.mk (Option.some 10) (.mv (.tmp 20)) Option.none)]))))))) (.seq (.region [(.mk (Option.some 4) (.mv (.const (.int .i64 0)))
  Option.none), (.mk (Option.some 5) (.mv (.const (.bool Bool.false))) Option.none)]) .ret))) 21 [(.tmp 4), (.tmp 5)])
def a22 : AFn :=
  (.mk (.seq (.region [(.mk (Option.some 2) (.mv (.const (.slice Option.none 0 0))) Option.none), (.mk (Option.some 3) (.mv (.const (.bool Bool.false))) Option.none)]) (.seq (.region
  [(.mk (Option.some 4) (.mv (.const (.slice Option.none 0 0))) Option.none)]) (.seq (.seq (.region [(.mk (Option.some 7) (.mv (.tmp 0)) Option.none), (.mk (Option.some 8) (.len
  (.tmp 7)) Option.none), (.mk (Option.some 9) (.mv (.const (.int .i64 0))) Option.none)]) (.block 0 (.loop (.seq (.region [(.mk (Option.some 10) (.bin .lss (.tmp 9) (.tmp 8))
  Option.none)]) (.seq (.cond (.tmp 10) .skip (.exit 0)) (.seq (.block 1 (.seq (.region [(.mk (Option.some 11) (.atSlice 4 (.tmp 7) (.tmp 9)) Option.none), (.mk (Option.some 12)
  (.load 4 Bool.true (.tmp 11)) Option.none), (.mk (Option.some 6) (.alloc [(.int .i64 0), (.str []), (.int .i64 0), (.int .i64 0)]) Option.none), (.mk Option.none (.store 4 (.tmp
  6) (.tmp 12)) Option.none)]) (.seq (.seq (.region [(.mk (Option.some 13) (.load 4 Bool.true (.tmp 6)) Option.none), (.mk (Option.some 14) (.call 11 [(.tmp 13)]) Option.none),
  (.mk (Option.some 15) (.un .not (.tmp 14)) Option.none)]) (.cond (.tmp 15) (.seq (.region [(.mk (Option.some 2) (.mv (.const (.slice Option.none 0 0))) Option.none), (.mk
  (Option.some 3) (.mv (.const (.bool Bool.false))) Option.none)]) .ret) .skip)) (.seq (.region [(.mk (Option.some 16) (.fieldAddr 0 (.tmp 6)) Option.none), (.mk (Option.some 17)
  (.load 1 Bool.false (.tmp 16)) Option.none), (.mk (Option.some 18) (.bin .neq (.tmp 17) (.const (.int .i64 1))) Option.none)]) (.cond (.tmp 18) (.region [(.mk (Option.some 19)
  (.fieldAddr 1 (.tmp 6)) Option.none), (.mk (Option.some 20) (.load 1 Bool.false (.tmp 19)) Option.none), (.mk (Option.some 21) (.fieldAddr 2 (.tmp 6)) Option.none), (.mk
  (Option.some 22) (.load 1 Bool.false (.tmp 21)) Option.none), (.mk (Option.some 23) (.conv .u64 (.tmp 22)) Option.none), (.mk (Option.some 24) (.bin .sub (.const (.int .u64 0))
  (.tmp 23)) Option.none), (.mk (Option.some 25) (.conv .i64 (.tmp 24)) Option.none), (.mk (Option.some 26) (.build [(.int .i64 0), (.str []), (.int .i64 0), (.int .i64 0)] [(0,
  (1, (.const (.int .i64 6)))), (1, (1, (.tmp 20))), (2, (1, (.tmp 25)))]) Option.none), (.mk (Option.some 27) (.buildSlice 1 4 [(.int .i64 0), (.str []), (.int .i64 0), (.int .i64
  0)] [(0, (4, (.tmp 26)))]) Option.none), (.mk (Option.some 28) (.mv (.tmp 4)) Option.none), (.mk (Option.some 29) (.append Bool.false 4 40 (.tmp 27) (.tmp 28)) Option.none), (.mk
  (Option.some 4) (.mv (.tmp 29)) Option.none)]) .skip))))) (.region [(.mk (Option.some 30) (.bin .add (.tmp 9) (.const (.int .i64 1))) Option.none), (.mk (Option.some 9) (.mv
  (.tmp 30)) Option.none)]))))))) (.seq (.seq (.region [(.mk (Option.some 31) (.mv (.tmp 0)) Option.none), (.mk (Option.some 32) (.call 41 [(.tmp 31), (.const (.string
  (ByteArray.mk #[49, 52, 53, 54])))]) Option.none), (.mk (Option.some 33) (.un .not (.tmp 32)) Option.none)]) (.cond (.tmp 33) (.seq (.region [(.mk (Option.some 2) (.mv (.const
  (.slice Option.none 0 0))) Option.none), (.mk (Option.some 3) (.mv (.const (.bool Bool.false))) Option.none)]) .ret) .skip)) (.seq (.region [(.mk (Option.some 34) (.mv (.tmp 4))
  Option.none), (.mk (Option.some 2) (.mv (.tmp 34)) Option.none), (.mk (Option.some 3) (.mv (.const (.bool Bool.true))) Option.none)]) .ret))))) 35 [(.tmp 2), (.tmp 3)])
def a23 : AFn :=
  (.mk (.seq (.region [(.mk (Option.some 4) (.mv (.const (.bool Bool.false))) Option.none)]) (.seq (.seq (.region [(.mk (Option.some 10) (.mv (.tmp 0)) Option.none), (.mk
  (Option.some 11) (.buildSlice 4 1 [(.int .i64 0), (.int .i64 0), (.int .i64 0), (.int .i64 0)] [(0, (1, (.const (.int .i64 1)))), (1, (1, (.const (.int .i64 4)))), (2, (1,
  (.const (.int .i64 5)))), (3, (1, (.const (.int .i64 6))))]) Option.none), (.mk (Option.some 12) (.call 39 [(.tmp 10), (.tmp 11)]) Option.none), (.mk (Option.some 13) (.un .not
  (.tmp 12)) Option.none), (.mk (Option.some 14) (.mv (.tmp 13)) Option.none), (.mk (Option.some 15) (.mv (.tmp 1)) (Option.some (14, Bool.false))), (.mk (Option.some 16)
  (.buildSlice 2 1 [(.int .i64 0), (.int .i64 0)] [(0, (1, (.const (.int .i64 1)))), (1, (1, (.const (.int .i64 6))))]) (Option.some (14, Bool.false))), (.mk (Option.some 17)
  (.call 39 [(.tmp 15), (.tmp 16)]) (Option.some (14, Bool.false))), (.mk (Option.some 18) (.un .not (.tmp 17)) (Option.some (14, Bool.false))), (.mk (Option.some 19) (.pick (.tmp
  14) (.const (.bool Bool.true)) (.tmp 18)) Option.none)]) (.cond (.tmp 19) (.seq (.region [(.mk (Option.some 4) (.mv (.const (.bool Bool.false))) Option.none)]) .ret) .skip))
  (.seq (.region [(.mk (Option.some 20) .mkMap Option.none), (.mk (Option.some 5) (.mv (.tmp 20)) Option.none)]) (.seq (.seq (.region [(.mk (Option.some 21) (.mv (.tmp 0))
  Option.none), (.mk (Option.some 22) (.mv (.tmp 1)) Option.none), (.mk (Option.some 23) (.buildSlice 2 1 [(.slice Option.none 0 0 0 0), (.slice Option.none 0 0 0 0)] [(0, (1,
  (.tmp 21))), (1, (1, (.tmp 22)))]) Option.none), (.mk (Option.some 24) (.call 42 [(.tmp 23)]) Option.none), (.mk (Option.some 25) (.len (.tmp 24)) Option.none), (.mk (Option.some
  26) (.mv (.const (.int .i64 0))) Option.none)]) (.block 0 (.loop (.seq (.region [(.mk (Option.some 27) (.bin .lss (.tmp 26) (.tmp 25)) Option.none)]) (.seq (.cond (.tmp 27) .skip
  (.exit 0)) (.seq (.block 1 (.seq (.region [(.mk (Option.some 28) (.atSlice 4 (.tmp 24) (.tmp 26)) Option.none), (.mk (Option.some 29) (.load 4 Bool.true (.tmp 28)) Option.none),
  (.mk (Option.some 7) (.alloc [(.int .i64 0), (.str []), (.int .i64 0), (.int .i64 0)]) Option.none), (.mk Option.none (.store 4 (.tmp 7) (.tmp 29)) Option.none)]) (.seq (.region
  [(.mk (Option.some 30) (.fieldAddr 0 (.tmp 7)) Option.none), (.mk (Option.some 31) (.load 1 Bool.false (.tmp 30)) Option.none), (.mk (Option.some 32) (.bin .neq (.tmp 31) (.const
  (.int .i64 1))) Option.none)]) (.cond (.tmp 32) (.region [(.mk (Option.some 33) (.mv (.tmp 5)) Option.none), (.mk (Option.some 34) (.fieldAddr 1 (.tmp 7)) Option.none), (.mk
  (Option.some 35) (.load 1 Bool.false (.tmp 34)) Option.none), (.mk (Option.some 36) (.lookup .str (.int .i64 0) Bool.false (.tmp 33) (.tmp 35)) Option.none), (.mk (Option.some
  37) (.fieldAddr 2 (.tmp 7)) Option.none), (.mk (Option.some 38) (.load 1 Bool.false (.tmp 37)) Option.none), (.mk (Option.some 39) (.bin .add (.tmp 36) (.tmp 38)) Option.none),
  (.mk Option.none (.mapPut .str (.tmp 33) (.tmp 35) (.tmp 39)) Option.none)]) .skip)))) (.region [(.mk (Option.some 40) (.bin .add (.tmp 26) (.const (.int .i64 1))) Option.none),
  (.mk (Option.some 26) (.mv (.tmp 40)) Option.none)]))))))) (.seq (.seq (.region [(.mk (Option.some 41) (.mv (.tmp 5)) Option.none), (.mk (Option.some 42) (.range Bool.true (.tmp
  41)) Option.none)]) (.block 2 (.loop (.seq (.region [(.mk (Option.some 43) (.next Bool.false (.tmp 42)) Option.none), (.mk (Option.some 44) (.extract (.tmp 43) 0) Option.none)])
  (.seq (.cond (.tmp 44) .skip (.exit 2)) (.block 3 (.seq (.region [(.mk (Option.some 45) (.entry (.tmp 42)) Option.none), (.mk (Option.some 46) (.extract (.tmp 45) 1)
  Option.none), (.mk (Option.some 9) (.mv (.tmp 46)) Option.none)]) (.seq (.region [(.mk (Option.some 47) (.mv (.tmp 9)) Option.none), (.mk (Option.some 48) (.bin .neq (.tmp 47)
  (.const (.int .i64 0))) Option.none)]) (.cond (.tmp 48) (.seq (.region [(.mk (Option.some 4) (.mv (.const (.bool Bool.false))) Option.none)]) .ret) .skip))))))))) (.seq (.region
  [(.mk (Option.some 4) (.mv (.const (.bool Bool.true))) Option.none)]) .ret)))))) 49 [(.tmp 4)])
def a24 : AFn :=
  (.mk (.seq (.region [(.mk (Option.some 4) (.mv (.const (.bool Bool.false))) Option.none)]) (.seq (.seq (.region [(.mk (Option.some 11) (.mv (.tmp 0)) Option.none), (.mk
  (Option.some 12) (.call 41 [(.tmp 11), (.const (.string (ByteArray.mk #[49, 52, 53, 54])))]) Option.none), (.mk (Option.some 13) (.un .not (.tmp 12)) Option.none), (.mk
  (Option.some 14) (.mv (.tmp 13)) Option.none), (.mk (Option.some 15) (.mv (.tmp 1)) (Option.some (14, Bool.false))), (.mk (Option.some 16) (.call 41 [(.tmp 15), (.const (.string
  (ByteArray.mk #[49, 54])))]) (Option.some (14, Bool.false))), (.mk (Option.some 17) (.un .not (.tmp 16)) (Option.some (14, Bool.false))), (.mk (Option.some 18) (.pick (.tmp 14)
  (.const (.bool Bool.true)) (.tmp 17)) Option.none)]) (.cond (.tmp 18) (.seq (.region [(.mk (Option.some 4) (.mv (.const (.bool Bool.false))) Option.none)]) .ret) .skip)) (.seq
  (.region [(.mk (Option.some 19) (.buildSlice 0 4 [] []) Option.none), (.mk (Option.some 20) (.mv (.tmp 0)) Option.none), (.mk (Option.some 21) (.append Bool.false 4 40 (.tmp 19)
  (.tmp 20)) Option.none), (.mk (Option.some 22) (.mv (.tmp 1)) Option.none), (.mk (Option.some 23) (.append Bool.false 4 40 (.tmp 21) (.tmp 22)) Option.none), (.mk (Option.some 5)
  (.mv (.tmp 23)) Option.none)]) (.seq (.seq (.region [(.mk (Option.some 24) (.mv (.tmp 5)) Option.none), (.mk (Option.some 25) (.len (.tmp 24)) Option.none), (.mk (Option.some 26)
  (.mv (.const (.int .i64 0))) Option.none)]) (.block 0 (.loop (.seq (.region [(.mk (Option.some 27) (.bin .lss (.tmp 26) (.tmp 25)) Option.none)]) (.seq (.cond (.tmp 27) .skip
  (.exit 0)) (.seq (.block 1 (.seq (.region [(.mk (Option.some 28) (.atSlice 4 (.tmp 24) (.tmp 26)) Option.none), (.mk (Option.some 29) (.load 4 Bool.true (.tmp 28)) Option.none),
  (.mk (Option.some 7) (.alloc [(.int .i64 0), (.str []), (.int .i64 0), (.int .i64 0)]) Option.none), (.mk Option.none (.store 4 (.tmp 7) (.tmp 29)) Option.none)]) (.seq (.region
  [(.mk (Option.some 8) (.mv (.const (.int .u64 0))) Option.none)]) (.seq (.seq (.region [(.mk (Option.some 30) (.mv (.tmp 5)) Option.none), (.mk (Option.some 31) (.len (.tmp 30))
  Option.none), (.mk (Option.some 32) (.mv (.const (.int .i64 0))) Option.none)]) (.block 2 (.loop (.seq (.region [(.mk (Option.some 33) (.bin .lss (.tmp 32) (.tmp 31))
  Option.none)]) (.seq (.cond (.tmp 33) .skip (.exit 2)) (.seq (.block 3 (.seq (.region [(.mk (Option.some 34) (.atSlice 4 (.tmp 30) (.tmp 32)) Option.none), (.mk (Option.some 35)
  (.load 4 Bool.true (.tmp 34)) Option.none), (.mk (Option.some 10) (.alloc [(.int .i64 0), (.str []), (.int .i64 0), (.int .i64 0)]) Option.none), (.mk Option.none (.store 4 (.tmp
  10) (.tmp 35)) Option.none)]) (.seq (.region [(.mk (Option.some 36) (.fieldAddr 1 (.tmp 10)) Option.none), (.mk (Option.some 37) (.load 1 Bool.false (.tmp 36)) Option.none), (.mk
  (Option.some 38) (.fieldAddr 1 (.tmp 7)) Option.none), (.mk (Option.some 39) (.load 1 Bool.false (.tmp 38)) Option.none), (.mk (Option.some 40) (.bin .eql (.tmp 37) (.tmp 39))
  Option.none), (.mk (Option.some 41) (.mv (.tmp 40)) Option.none), (.mk (Option.some 42) (.fieldAddr 0 (.tmp 10)) (Option.some (41, Bool.true))), (.mk (Option.some 43) (.load 1
  Bool.false (.tmp 42)) (Option.some (41, Bool.true))), (.mk (Option.some 44) (.bin .neq (.tmp 43) (.const (.int .i64 1))) (Option.some (41, Bool.true))), (.mk (Option.some 45)
  (.pick (.tmp 41) (.tmp 44) (.const (.bool Bool.false))) Option.none)]) (.cond (.tmp 45) (.region [(.mk (Option.some 46) (.mv (.tmp 8)) Option.none), (.mk (Option.some 47)
  (.fieldAddr 2 (.tmp 10)) Option.none), (.mk (Option.some 48) (.load 1 Bool.false (.tmp 47)) Option.none), (.mk (Option.some 49) (.conv .u64 (.tmp 48)) Option.none), (.mk
  (Option.some 50) (.bin .add (.tmp 46) (.tmp 49)) Option.none), (.mk (Option.some 8) (.mv (.tmp 50)) Option.none)]) .skip)))) (.region [(.mk (Option.some 51) (.bin .add (.tmp 32)
  (.const (.int .i64 1))) Option.none), (.mk (Option.some 32) (.mv (.tmp 51)) Option.none)]))))))) (.seq (.region [(.mk (Option.some 52) (.mv (.tmp 8)) Option.none), (.mk
  (Option.some 53) (.bin .neq (.tmp 52) (.const (.int .u64 0))) Option.none)]) (.cond (.tmp 53) (.seq (.region [(.mk (Option.some 4) (.mv (.const (.bool Bool.false)))
  Option.none)]) .ret) .skip)))))) (.region [(.mk (Option.some 54) (.bin .add (.tmp 26) (.const (.int .i64 1))) Option.none), (.mk (Option.some 26) (.mv (.tmp 54))
  Option.none)]))))))) (.seq (.region [(.mk (Option.some 4) (.mv (.const (.bool Bool.true))) Option.none)]) .ret))))) 55 [(.tmp 4)])
def a25 : AFn :=
  (.mk (.seq (.region [(.mk (Option.some 4) (.mv (.const (.bool Bool.false))) Option.none)]) (.seq (.seq (.region [(.mk (Option.some 6) (.mv (.tmp 0)) Option.none), (.mk (Option.some
  7) (.len (.tmp 6)) Option.none), (.mk (Option.some 8) (.mv (.tmp 1)) Option.none), (.mk (Option.some 9) (.len (.tmp 8)) Option.none), (.mk (Option.some 10) (.bin .neq (.tmp 7)
  (.tmp 9)) Option.none)]) (.cond (.tmp 10) (.seq (.region [(.mk (Option.some 4) (.mv (.const (.bool Bool.false))) Option.none)]) .ret) .skip)) (.seq (.seq (.region [(.mk
  (Option.some 11) (.mv (.tmp 0)) Option.none), (.mk (Option.some 12) (.len (.tmp 11)) Option.none), (.mk (Option.some 13) (.mv (.const (.int .i64 0))) Option.none)]) (.block 0
  (.loop (.seq (.region [(.mk (Option.some 14) (.bin .lss (.tmp 13) (.tmp 12)) Option.none)]) (.seq (.cond (.tmp 14) .skip (.exit 0)) (.seq (.block 1 (.seq (.region [(.mk
  (Option.some 15) (.mv (.tmp 13)) Option.none), (.mk (Option.some 5) (.mv (.tmp 15)) Option.none)]) (.seq (.draws [((.mk (Option.some 16) (.mv (.tmp 0)) Option.none), (0, 9)),
  ((.mk (Option.some 17) (.mv (.tmp 5)) Option.none), (0, 9)), ((.mk (Option.some 18) (.atSlice 4 (.tmp 16) (.tmp 17)) Option.none), (0, 9)), ((.mk (Option.some 19) (.load 4
  Bool.true (.tmp 18)) Option.none), (0, 9)), ((.mk (Option.some 20) (.mv (.tmp 1)) Option.none), (0, 9)), ((.mk (Option.some 21) (.mv (.tmp 5)) Option.none), (0, 9)), ((.mk
  (Option.some 22) (.atSlice 4 (.tmp 20) (.tmp 21)) Option.none), (0, 9)), ((.mk (Option.some 23) (.load 4 Bool.true (.tmp 22)) Option.none), (0, 9)), ((.mk (Option.some 24)
  (.eqAgg Bool.true [(.int .i64), .str, (.int .i64), (.int .i64)] (.tmp 19) (.tmp 23)) Option.none), (0, 9))]) (.cond (.tmp 24) (.seq (.region [(.mk (Option.some 4) (.mv (.const
  (.bool Bool.false))) Option.none)]) .ret) .skip)))) (.region [(.mk (Option.some 25) (.bin .add (.tmp 13) (.const (.int .i64 1))) Option.none), (.mk (Option.some 13) (.mv (.tmp
  25)) Option.none)]))))))) (.seq (.region [(.mk (Option.some 4) (.mv (.const (.bool Bool.true))) Option.none)]) .ret)))) 26 [(.tmp 4)])
def a26 : AFn :=
  (.mk (.seq (.region [(.mk (Option.some 2) (.mv (.const (.slice Option.none 0 0))) Option.none)]) (.seq (.region [(.mk (Option.some 3) (.mv (.const (.slice Option.none 0 0)))
  Option.none)]) (.seq (.seq (.region [(.mk (Option.some 6) (.mv (.tmp 0)) Option.none), (.mk (Option.some 7) (.len (.tmp 6)) Option.none), (.mk (Option.some 8) (.mv (.const (.int
  .i64 0))) Option.none)]) (.block 0 (.loop (.seq (.region [(.mk (Option.some 9) (.bin .lss (.tmp 8) (.tmp 7)) Option.none)]) (.seq (.cond (.tmp 9) .skip (.exit 0)) (.seq (.block 1
  (.seq (.region [(.mk (Option.some 10) (.atSlice 4 (.tmp 6) (.tmp 8)) Option.none), (.mk (Option.some 11) (.load 4 Bool.true (.tmp 10)) Option.none), (.mk (Option.some 5) (.alloc
  [(.int .i64 0), (.str []), (.int .i64 0), (.int .i64 0)]) Option.none), (.mk Option.none (.store 4 (.tmp 5) (.tmp 11)) Option.none)]) (.region [(.mk (Option.some 12) (.mv (.tmp
  3)) Option.none), (.mk (Option.some 13) (.fieldAddr 1 (.tmp 5)) Option.none), (.mk (Option.some 14) (.load 1 Bool.false (.tmp 13)) Option.none), (.mk (Option.some 15)
  (.buildSlice 1 1 [(.str [])] [(0, (1, (.tmp 14)))]) Option.none), (.mk (Option.some 16) (.append Bool.false 1 16 (.tmp 12) (.tmp 15)) Option.none), (.mk (Option.some 3) (.mv
  (.tmp 16)) Option.none)]))) (.region [(.mk (Option.some 17) (.bin .add (.tmp 8) (.const (.int .i64 1))) Option.none), (.mk (Option.some 8) (.mv (.tmp 17)) Option.none)])))))))
  (.seq (.region [(.mk (Option.some 18) (.mv (.tmp 3)) Option.none), (.mk (Option.some 19) (.call 43 [(.tmp 18)]) Option.none)]) (.seq (.region [(.mk (Option.some 20) (.mv (.tmp
  3)) Option.none), (.mk (Option.some 21) (.call 44 [(.tmp 20)]) Option.none), (.mk (Option.some 2) (.mv (.tmp 21)) Option.none)]) .ret))))) 22 [(.tmp 2)])
def a27 : AFn :=
  (.mk (.seq (.region [(.mk (Option.some 3) (.box (.tmp 0)) Option.none), (.mk (Option.some 6) (.mv (.const (.int .i64 0))) Option.none), (.mk (Option.some 7) (.mv (.const (.bool
  Bool.false))) Option.none), (.mk (Option.some 8) (.mv (.const (.int .i64 0))) Option.none), (.mk (Option.some 9) (.mv (.const (.int .i64 0))) Option.none)]) (.seq (.region [(.mk
  (Option.some 13) (.mv (.tmp 1)) Option.none), (.mk (Option.some 14) (.fieldAddr 2 (.tmp 3)) Option.none), (.mk (Option.some 15) (.load 1 Bool.false (.tmp 14)) Option.none), (.mk
  (Option.some 16) (.call 45 [(.tmp 13), (.tmp 15)]) Option.none), (.mk (Option.some 12) (.mv (.tmp 16)) Option.none), (.mk (Option.some 17) (.extract (.tmp 12) 0) Option.none),
  (.mk (Option.some 18) (.extract (.tmp 12) 1) Option.none), (.mk (Option.some 10) (.mv (.tmp 17)) Option.none), (.mk (Option.some 11) (.mv (.tmp 18)) Option.none)]) (.seq (.block
  0 (.seq (.region [(.mk (Option.some 20) (.mv (.tmp 11)) Option.none), (.mk (Option.some 21) (.un .not (.tmp 20)) Option.none), (.mk (Option.some 19) (.mv (.tmp 21))
  Option.none)]) (.cond (.tmp 19) (.seq (.region [(.mk (Option.some 22) (.mv (.tmp 1)) Option.none), (.mk (Option.some 23) (.mv (.tmp 2)) Option.none), (.mk (Option.some 6) (.mv
  (.tmp 22)) Option.none), (.mk (Option.some 7) (.mv (.tmp 23)) Option.none), (.mk (Option.some 8) (.mv (.const (.int .i64 0))) Option.none), (.mk (Option.some 9) (.mv (.const
  (.int .i64 25))) Option.none)]) .ret) (.seq (.region [(.mk (Option.some 25) (.fieldAddr 0 (.tmp 3)) Option.none), (.mk (Option.some 26) (.load 1 Bool.false (.tmp 25))
  Option.none), (.mk (Option.some 27) (.bin .eql (.tmp 26) (.const (.int .i64 5))) Option.none), (.mk (Option.some 28) (.mv (.tmp 27)) Option.none), (.mk (Option.some 29) (.mv
  (.tmp 10)) (Option.some (28, Bool.true))), (.mk (Option.some 30) (.fieldAddr 3 (.tmp 3)) (Option.some (28, Bool.true))), (.mk (Option.some 31) (.load 1 Bool.false (.tmp 30))
  (Option.some (28, Bool.true))), (.mk (Option.some 32) (.bin .lss (.tmp 29) (.tmp 31)) (Option.some (28, Bool.true))), (.mk (Option.some 33) (.pick (.tmp 28) (.tmp 32) (.const
  (.bool Bool.false))) Option.none), (.mk (Option.some 24) (.mv (.tmp 33)) Option.none)]) (.cond (.tmp 24) (.seq (.region [(.mk (Option.some 34) (.mv (.tmp 1)) Option.none), (.mk
  (Option.some 35) (.mv (.tmp 2)) Option.none), (.mk (Option.some 6) (.mv (.tmp 34)) Option.none), (.mk (Option.some 7) (.mv (.tmp 35)) Option.none), (.mk (Option.some 8) (.mv
  (.const (.int .i64 0))) Option.none), (.mk (Option.some 9) (.mv (.const (.int .i64 24))) Option.none)]) .ret) .skip))))) (.seq (.region [(.mk (Option.some 36) (.mv (.tmp 10))
  Option.none), (.mk (Option.some 37) (.mv (.tmp 10)) Option.none), (.mk (Option.some 6) (.mv (.tmp 36)) Option.none), (.mk (Option.some 7) (.mv (.const (.bool Bool.true)))
  Option.none), (.mk (Option.some 8) (.mv (.tmp 37)) Option.none), (.mk (Option.some 9) (.mv (.const (.int .i64 0))) Option.none)]) .ret)))) 38 [(.tmp 6), (.tmp 7), (.tmp 8), (.tmp
  9)])
def a28 : AFn :=
  (.mk (.seq (.region [(.mk (Option.some 4) (.mv (.const (.int .i64 0))) Option.none), (.mk (Option.some 5) (.mv (.const (.bool Bool.false))) Option.none)]) (.seq (.region [(.mk
  (Option.some 6) (.mv (.const (.int .i64 9223372036854775807))) Option.none)]) (.seq (.seq (.region [(.mk (Option.some 7) (.mv (.tmp 1)) Option.none), (.mk (Option.some 8) (.bin
  .gtr (.tmp 7) (.const (.int .i64 0))) Option.none), (.mk (Option.some 9) (.mv (.tmp 8)) Option.none), (.mk (Option.some 10) (.mv (.tmp 0)) (Option.some (9, Bool.true))), (.mk
  (Option.some 11) (.mv (.tmp 6)) (Option.some (9, Bool.true))), (.mk (Option.some 12) (.mv (.tmp 1)) (Option.some (9, Bool.true))), (.mk (Option.some 13) (.bin .sub (.tmp 11)
  (.tmp 12)) (Option.some (9, Bool.true))), (.mk (Option.some 14) (.bin .gtr (.tmp 10) (.tmp 13)) (Option.some (9, Bool.true))), (.mk (Option.some 15) (.pick (.tmp 9) (.tmp 14)
  (.const (.bool Bool.false))) Option.none), (.mk (Option.some 16) (.mv (.tmp 15)) Option.none), (.mk (Option.some 17) (.mv (.tmp 1)) (Option.some (16, Bool.false))), (.mk
  (Option.some 18) (.bin .lss (.tmp 17) (.const (.int .i64 0))) (Option.some (16, Bool.false))), (.mk (Option.some 19) (.mv (.tmp 18)) (Option.some (16, Bool.false))), (.mk
  (Option.some 20) (.mv (.tmp 0)) (Option.some (19, Bool.true))), (.mk (Option.some 21) (.mv (.tmp 6)) (Option.some (19, Bool.true))), (.mk (Option.some 22) (.un .neg (.tmp 21))
  (Option.some (19, Bool.true))), (.mk (Option.some 23) (.bin .sub (.tmp 22) (.const (.int .i64 1))) (Option.some (19, Bool.true))), (.mk (Option.some 24) (.mv (.tmp 1))
  (Option.some (19, Bool.true))), (.mk (Option.some 25) (.bin .sub (.tmp 23) (.tmp 24)) (Option.some (19, Bool.true))), (.mk (Option.some 26) (.bin .lss (.tmp 20) (.tmp 25))
  (Option.some (19, Bool.true))), (.mk (Option.some 27) (.pick (.tmp 19) (.tmp 26) (.const (.bool Bool.false))) (Option.some (16, Bool.false))), (.mk (Option.some 28) (.pick (.tmp
  16) (.const (.bool Bool.true)) (.tmp 27)) Option.none)]) (.cond (.tmp 28) (.seq (.region [(.mk (Option.some 4) (.mv (.const (.int .i64 0))) Option.none), (.mk (Option.some 5)
  (.mv (.const (.bool Bool.false))) Option.none)]) .ret) .skip)) (.seq (.region [(.mk (Option.some 29) (.mv (.tmp 0)) Option.none), (.mk (Option.some 30) (.mv (.tmp 1))
  Option.none), (.mk (Option.some 31) (.bin .add (.tmp 29) (.tmp 30)) Option.none), (.mk (Option.some 4) (.mv (.tmp 31)) Option.none), (.mk (Option.some 5) (.mv (.const (.bool
  Bool.true))) Option.none)]) .ret)))) 32 [(.tmp 4), (.tmp 5)])
def a29 : AFn :=
  (.mk (.seq (.region [(.mk (Option.some 4) (.mv (.const (.bool Bool.false))) Option.none)]) (.seq (.region [(.mk (Option.some 5) (.mv (.tmp 0)) Option.none), (.mk (Option.some 6)
  (.mv (.tmp 1)) Option.none), (.mk (Option.some 7) (.call 46 [(.tmp 5), (.tmp 6)]) Option.none), (.mk (Option.some 8) (.bin .geq (.tmp 7) (.const (.int .i64 0))) Option.none),
  (.mk (Option.some 4) (.mv (.tmp 8)) Option.none)]) .ret)) 9 [(.tmp 4)])
def a30 : AFn :=
  (.mk (.seq (.region [(.mk (Option.some 1) (.box (.tmp 0)) Option.none), (.mk (Option.some 2) (.mv (.const (.bool Bool.false))) Option.none)]) (.seq (.region [(.mk (Option.some 3)
  (.fieldAddr 0 (.tmp 1)) Option.none), (.mk (Option.some 4) (.load 1 Bool.false (.tmp 3)) Option.none), (.mk (Option.some 5) (.bin .eql (.tmp 4) (.const (.int .i64 4)))
  Option.none), (.mk (Option.some 6) (.mv (.tmp 5)) Option.none), (.mk (Option.some 7) (.fieldAddr 0 (.tmp 1)) (Option.some (6, Bool.false))), (.mk (Option.some 8) (.load 1
  Bool.false (.tmp 7)) (Option.some (6, Bool.false))), (.mk (Option.some 9) (.bin .eql (.tmp 8) (.const (.int .i64 5))) (Option.some (6, Bool.false))), (.mk (Option.some 10) (.pick
  (.tmp 6) (.const (.bool Bool.true)) (.tmp 9)) Option.none), (.mk (Option.some 11) (.mv (.tmp 10)) Option.none), (.mk (Option.some 12) (.load 4 Bool.true (.tmp 1)) (Option.some
  (11, Bool.false))), (.mk (Option.some 13) (.call 31 [(.tmp 12)]) (Option.some (11, Bool.false))), (.mk (Option.some 14) (.un .not (.tmp 13)) (Option.some (11, Bool.false))), (.mk
  (Option.some 15) (.pick (.tmp 11) (.const (.bool Bool.true)) (.tmp 14)) Option.none), (.mk (Option.some 2) (.mv (.tmp 15)) Option.none)]) .ret)) 16 [(.tmp 2)])
def a31 : AFn :=
  (.mk (.seq (.region [(.mk (Option.some 1) (.box (.tmp 0)) Option.none), (.mk (Option.some 2) (.mv (.const (.bool Bool.false))) Option.none)]) (.seq (.seq (.region [(.mk
  (Option.some 3) (.fieldAddr 0 (.tmp 1)) Option.none), (.mk (Option.some 4) (.load 1 Bool.false (.tmp 3)) Option.none)]) (.block 0 (.seq (.block 3 (.seq (.block 2 (.seq (.block 1
  (.seq (.seq (.seq (.seq (.region [(.mk (Option.some 6) (.bin .eql (.tmp 4) (.const (.int .i64 1))) Option.none), (.mk (Option.some 5) (.mv (.tmp 6)) Option.none)]) (.cond (.tmp
  5) .skip (.region [(.mk (Option.some 7) (.bin .eql (.tmp 4) (.const (.int .i64 3))) Option.none), (.mk (Option.some 5) (.mv (.tmp 7)) Option.none)]))) (.cond (.tmp 5) (.exit 1)
  .skip)) (.seq (.seq (.seq (.region [(.mk (Option.some 9) (.bin .eql (.tmp 4) (.const (.int .i64 2))) Option.none), (.mk (Option.some 8) (.mv (.tmp 9)) Option.none)]) (.cond (.tmp
  8) .skip (.seq (.region [(.mk (Option.some 10) (.bin .eql (.tmp 4) (.const (.int .i64 4))) Option.none), (.mk (Option.some 8) (.mv (.tmp 10)) Option.none)]) (.cond (.tmp 8) .skip
  (.region [(.mk (Option.some 11) (.bin .eql (.tmp 4) (.const (.int .i64 6))) Option.none), (.mk (Option.some 8) (.mv (.tmp 11)) Option.none)]))))) (.cond (.tmp 8) (.exit 2)
  .skip)) (.seq (.region [(.mk (Option.some 13) (.bin .eql (.tmp 4) (.const (.int .i64 5))) Option.none), (.mk (Option.some 12) (.mv (.tmp 13)) Option.none)]) (.cond (.tmp 12)
  (.exit 3) .skip)))) (.exit 0))) (.seq (.region [(.mk (Option.some 14) (.fieldAddr 2 (.tmp 1)) Option.none), (.mk (Option.some 15) (.load 1 Bool.false (.tmp 14)) Option.none),
  (.mk (Option.some 16) (.bin .neq (.tmp 15) (.const (.int .i64 0))) Option.none)]) (.cond (.tmp 16) (.seq (.region [(.mk (Option.some 2) (.mv (.const (.bool Bool.false)))
  Option.none)]) .ret) .skip)))) (.seq (.seq (.region [(.mk (Option.some 17) (.fieldAddr 3 (.tmp 1)) Option.none), (.mk (Option.some 18) (.load 1 Bool.false (.tmp 17))
  Option.none), (.mk (Option.some 19) (.bin .eql (.tmp 18) (.const (.int .i64 0))) Option.none), (.mk (Option.some 2) (.mv (.tmp 19)) Option.none)]) .ret) (.exit 0)))) (.seq (.seq
  (.region [(.mk (Option.some 2) (.mv (.const (.bool Bool.true))) Option.none)]) .ret) (.exit 0))))) (.seq (.region [(.mk (Option.some 2) (.mv (.const (.bool Bool.false)))
  Option.none)]) .ret))) 20 [(.tmp 2)])
def a32 : AFn :=
  (.mk (.seq (.region [(.mk (Option.some 2) (.mv (.const (.bool Bool.false))) Option.none)]) (.seq (.seq (.region [(.mk (Option.some 3) (.mv (.const (.int .i64 0))) Option.none)])
  (.block 0 (.loop (.seq (.seq (.region [(.mk (Option.some 5) (.mv (.tmp 3)) Option.none), (.mk (Option.some 6) (.mv (.tmp 0)) Option.none), (.mk (Option.some 7) (.lenStr (.tmp 6))
  Option.none), (.mk (Option.some 8) (.bin .lss (.tmp 5) (.tmp 7)) Option.none)]) (.cond (.tmp 8) .skip (.exit 0))) (.seq (.block 1 (.seq (.region [(.mk (Option.some 11) (.mv (.tmp
  0)) Option.none), (.mk (Option.some 12) (.mv (.tmp 3)) Option.none), (.mk (Option.some 13) (.byteAt (.tmp 11) (.tmp 12)) Option.none), (.mk (Option.some 4) (.mv (.tmp 13))
  Option.none)]) (.seq (.region [(.mk (Option.some 14) (.mv (.tmp 4)) Option.none), (.mk (Option.some 15) (.bin .lss (.tmp 14) (.const (.int .u8 97))) Option.none), (.mk
  (Option.some 16) (.mv (.tmp 15)) Option.none), (.mk (Option.some 17) (.mv (.tmp 4)) (Option.some (16, Bool.false))), (.mk (Option.some 18) (.bin .gtr (.tmp 17) (.const (.int .u8
  122))) (Option.some (16, Bool.false))), (.mk (Option.some 19) (.pick (.tmp 16) (.const (.bool Bool.true)) (.tmp 18)) Option.none), (.mk (Option.some 20) (.mv (.tmp 19))
  Option.none), (.mk (Option.some 21) (.mv (.tmp 4)) (Option.some (20, Bool.true))), (.mk (Option.some 22) (.bin .lss (.tmp 21) (.const (.int .u8 48))) (Option.some (20,
  Bool.true))), (.mk (Option.some 23) (.mv (.tmp 22)) (Option.some (20, Bool.true))), (.mk (Option.some 24) (.mv (.tmp 4)) (Option.some (23, Bool.false))), (.mk (Option.some 25)
  (.bin .gtr (.tmp 24) (.const (.int .u8 57))) (Option.some (23, Bool.false))), (.mk (Option.some 26) (.pick (.tmp 23) (.const (.bool Bool.true)) (.tmp 25)) (Option.some (20,
  Bool.true))), (.mk (Option.some 27) (.pick (.tmp 20) (.tmp 26) (.const (.bool Bool.false))) Option.none), (.mk (Option.some 28) (.mv (.tmp 27)) Option.none), (.mk (Option.some
  29) (.mv (.tmp 4)) (Option.some (28, Bool.true))), (.mk (Option.some 30) (.bin .neq (.tmp 29) (.const (.int .u8 46))) (Option.some (28, Bool.true))), (.mk (Option.some 31) (.pick
  (.tmp 28) (.tmp 30) (.const (.bool Bool.false))) Option.none), (.mk (Option.some 32) (.mv (.tmp 31)) Option.none), (.mk (Option.some 33) (.mv (.tmp 4)) (Option.some (32,
  Bool.true))), (.mk (Option.some 34) (.bin .neq (.tmp 33) (.const (.int .u8 95))) (Option.some (32, Bool.true))), (.mk (Option.some 35) (.pick (.tmp 32) (.tmp 34) (.const (.bool
  Bool.false))) Option.none)]) (.cond (.tmp 35) (.seq (.region [(.mk (Option.some 2) (.mv (.const (.bool Bool.false))) Option.none)]) .ret) .skip)))) (.region [(.mk (Option.some 9)
  (.mv (.tmp 3)) Option.none), (.mk (Option.some 10) (.bin .add (.tmp 9) (.const (.int .i64 1))) Option.none), (.mk (Option.some 3) (.mv (.tmp 10)) Option.none)])))))) (.seq
  (.region [(.mk (Option.some 36) (.mv (.tmp 0)) Option.none), (.mk (Option.some 37) (.lenStr (.tmp 36)) Option.none), (.mk (Option.some 38) (.bin .gtr (.tmp 37) (.const (.int .i64
  0))) Option.none), (.mk (Option.some 2) (.mv (.tmp 38)) Option.none)]) .ret))) 39 [(.tmp 2)])
def a33 : AFn :=
  (.mk (.seq (.region [(.mk (Option.some 2) (.mv (.const (.slice Option.none 0 0))) Option.none), (.mk (Option.some 3) (.mv (.const (.int .i64 0))) Option.none), (.mk (Option.some 4)
  (.mv (.const (.int .i64 0))) Option.none)]) (.seq (.seq (.region [(.mk (Option.some 10) (.mv (.tmp 0)) Option.none), (.mk (Option.some 11) (.call 47 [(.tmp 10)]) Option.none),
  (.mk (Option.some 12) (.len (.tmp 11)) Option.none), (.mk (Option.some 13) (.bin .eql (.tmp 12) (.const (.int .i64 0))) Option.none)]) (.cond (.tmp 13) (.seq (.region [(.mk
  (Option.some 2) (.mv (.const (.slice Option.none 0 0))) Option.none), (.mk (Option.some 3) (.mv (.const (.int .i64 0))) Option.none), (.mk (Option.some 4) (.mv (.const (.int .i64
  0))) Option.none)]) .ret) .skip)) (.seq (.region [(.mk (Option.some 5) (.mv (.const (.slice Option.none 0 0))) Option.none)]) (.seq (.seq (.region [(.mk (Option.some 14) (.mv
  (.tmp 0)) Option.none), (.mk (Option.some 15) (.call 48 [(.tmp 14), (.const (.string (ByteArray.mk #[59])))]) Option.none), (.mk (Option.some 16) (.len (.tmp 15)) Option.none),
  (.mk (Option.some 17) (.mv (.const (.int .i64 0))) Option.none)]) (.block 0 (.loop (.seq (.region [(.mk (Option.some 18) (.bin .lss (.tmp 17) (.tmp 16)) Option.none)]) (.seq
  (.cond (.tmp 18) .skip (.exit 0)) (.seq (.block 1 (.seq (.region [(.mk (Option.some 19) (.mv (.tmp 17)) Option.none), (.mk (Option.some 20) (.atSlice 1 (.tmp 15) (.tmp 17))
  Option.none), (.mk (Option.some 21) (.load 1 Bool.false (.tmp 20)) Option.none), (.mk (Option.some 6) (.mv (.tmp 19)) Option.none), (.mk (Option.some 7) (.mv (.tmp 21))
  Option.none)]) (.seq (.region [(.mk (Option.some 23) (.mv (.tmp 7)) Option.none), (.mk (Option.some 24) (.call 49 [(.tmp 23)]) Option.none), (.mk (Option.some 22) (.mv (.tmp 24))
  Option.none), (.mk (Option.some 25) (.extract (.tmp 22) 0) Option.none), (.mk (Option.some 26) (.extract (.tmp 22) 1) Option.none), (.mk (Option.some 8) (.alloc [(.int .i64 0),
  (.str []), (.int .i64 0), (.int .i64 0)]) Option.none), (.mk Option.none (.store 4 (.tmp 8) (.tmp 25)) Option.none), (.mk (Option.some 9) (.mv (.tmp 26)) Option.none)]) (.seq
  (.seq (.region [(.mk (Option.some 27) (.mv (.tmp 6)) Option.none), (.mk (Option.some 28) (.mv (.tmp 9)) Option.none), (.mk (Option.some 29) (.call 50 [(.tmp 27), (.tmp 28)])
  Option.none), (.mk (Option.some 9) (.mv (.tmp 29)) Option.none)]) (.seq (.region [(.mk (Option.some 30) (.mv (.tmp 9)) Option.none), (.mk (Option.some 31) (.eq (.iface Bool.true)
  Bool.true (.tmp 30) (.const .nilIface)) Option.none)]) (.cond (.tmp 31) (.seq (.region [(.mk (Option.some 32) (.mv (.tmp 9)) Option.none), (.mk (Option.some 33) (.call 51 [(.tmp
  32)]) Option.none), (.mk (Option.some 34) (.mv (.tmp 9)) Option.none), (.mk (Option.some 35) (.call 36 [(.tmp 34)]) Option.none), (.mk (Option.some 2) (.mv (.const (.slice
  Option.none 0 0))) Option.none), (.mk (Option.some 3) (.mv (.tmp 33)) Option.none), (.mk (Option.some 4) (.mv (.tmp 35)) Option.none)]) .ret) .skip))) (.region [(.mk (Option.some
  36) (.mv (.tmp 5)) Option.none), (.mk (Option.some 37) (.load 4 Bool.true (.tmp 8)) Option.none), (.mk (Option.some 38) (.buildSlice 1 4 [(.int .i64 0), (.str []), (.int .i64 0),
  (.int .i64 0)] [(0, (4, (.tmp 37)))]) Option.none), (.mk (Option.some 39) (.append Bool.false 4 40 (.tmp 36) (.tmp 38)) Option.none), (.mk (Option.some 5) (.mv (.tmp 39))
  Option.none)]))))) (.region [(.mk (Option.some 40) (.bin .add (.tmp 17) (.const (.int .i64 1))) Option.none), (.mk (Option.some 17) (.mv (.tmp 40)) Option.none)]))))))) (.seq
  (.seq (.region [(.mk (Option.some 41) (.mv (.tmp 5)) Option.none), (.mk (Option.some 42) (.len (.tmp 41)) Option.none), (.mk (Option.some 43) (.bin .gtr (.tmp 42) (.const (.int
  .i64 8))) Option.none)]) (.cond (.tmp 43) (.seq (.region [(.mk (Option.some 2) (.mv (.const (.slice Option.none 0 0))) Option.none), (.mk (Option.some 3) (.mv (.const (.int .i64
  0))) Option.none), (.mk (Option.some 4) (.mv (.const (.int .i64 7))) Option.none)]) .ret) .skip)) (.seq (.region [(.mk (Option.some 44) (.mv (.tmp 5)) Option.none), (.mk
  (Option.some 2) (.mv (.tmp 44)) Option.none), (.mk (Option.some 3) (.mv (.const (.int .i64 0))) Option.none), (.mk (Option.some 4) (.mv (.const (.int .i64 0))) Option.none)])
  .ret)))))) 45 [(.tmp 2), (.tmp 3), (.tmp 4)])
def a34 : AFn :=
  (.mk (.seq (.region [(.mk (Option.some 2) (.mv (.const (.string (ByteArray.mk #[])))) Option.none)]) (.seq (.region [(.mk (Option.some 3) (.mv (.const (.slice Option.none 0 0)))
  Option.none)]) (.seq (.seq (.region [(.mk (Option.some 6) (.mv (.tmp 0)) Option.none), (.mk (Option.some 7) (.len (.tmp 6)) Option.none), (.mk (Option.some 8) (.mv (.const (.int
  .i64 0))) Option.none)]) (.block 0 (.loop (.seq (.region [(.mk (Option.some 9) (.bin .lss (.tmp 8) (.tmp 7)) Option.none)]) (.seq (.cond (.tmp 9) .skip (.exit 0)) (.seq (.block 1
  (.seq (.region [(.mk (Option.some 10) (.atSlice 4 (.tmp 6) (.tmp 8)) Option.none), (.mk (Option.some 11) (.load 4 Bool.true (.tmp 10)) Option.none), (.mk (Option.some 5) (.alloc
  [(.int .i64 0), (.str []), (.int .i64 0), (.int .i64 0)]) Option.none), (.mk Option.none (.store 4 (.tmp 5) (.tmp 11)) Option.none)]) (.region [(.mk (Option.some 12) (.mv (.tmp
  3)) Option.none), (.mk (Option.some 13) (.load 4 Bool.true (.tmp 5)) Option.none), (.mk (Option.some 14) (.call 52 [(.tmp 13)]) Option.none), (.mk (Option.some 15) (.buildSlice 1
  1 [(.str [])] [(0, (1, (.tmp 14)))]) Option.none), (.mk (Option.some 16) (.append Bool.false 1 16 (.tmp 12) (.tmp 15)) Option.none), (.mk (Option.some 3) (.mv (.tmp 16))
  Option.none)]))) (.region [(.mk (Option.some 17) (.bin .add (.tmp 8) (.const (.int .i64 1))) Option.none), (.mk (Option.some 8) (.mv (.tmp 17)) Option.none)]))))))) (.seq
  (.region [(.mk (Option.some 18) (.mv (.tmp 3)) Option.none), (.mk (Option.some 19) (.call 53 [(.tmp 18), (.const (.string (ByteArray.mk #[59, 32])))]) Option.none), (.mk
  (Option.some 2) (.mv (.tmp 19)) Option.none)]) .ret)))) 20 [(.tmp 2)])
def a35 : AFn :=
  (.mk (.seq (.region [(.mk (Option.some 2) (.mv (.const (.bool Bool.false))) Option.none)]) (.seq (.region [(.mk (Option.some 3) (.mv (.tmp 0)) Option.none), (.mk (Option.some 4)
  (.lenStr (.tmp 3)) Option.none), (.mk (Option.some 5) (.bin .leq (.tmp 4) (.const (.int .i64 16))) Option.none), (.mk (Option.some 6) (.mv (.tmp 5)) Option.none), (.mk
  (Option.some 7) (.mv (.tmp 0)) (Option.some (6, Bool.true))), (.mk (Option.some 8) (.call 54 [(.tmp 7), (.const (.string (ByteArray.mk #[126])))]) (Option.some (6, Bool.true))),
  (.mk (Option.some 9) (.pick (.tmp 6) (.tmp 8) (.const (.bool Bool.false))) Option.none), (.mk (Option.some 10) (.mv (.tmp 9)) Option.none), (.mk (Option.some 11) (.mv (.tmp 0))
  (Option.some (10, Bool.true))), (.mk (Option.some 12) (.cutStr (.tmp 11) (Option.some (.const (.int .i64 1))) Option.none) (Option.some (10, Bool.true))), (.mk (Option.some 13)
  (.call 38 [(.tmp 12)]) (Option.some (10, Bool.true))), (.mk (Option.some 14) (.pick (.tmp 10) (.tmp 13) (.const (.bool Bool.false))) Option.none), (.mk (Option.some 2) (.mv (.tmp
  14)) Option.none)]) .ret)) 15 [(.tmp 2)])
def a36 : AFn :=
  (.mk (.seq (.region [(.mk (Option.some 2) (.mv (.const (.int .i64 0))) Option.none)]) (.seq (.region [(.mk (Option.some 3) (.alloc [(.ptr Option.none)]) Option.none)]) (.seq
  (.block 0 (.seq (.region [(.mk (Option.some 5) (.mv (.tmp 0)) Option.none), (.mk (Option.some 6) (.eq (.iface Bool.true) Bool.false (.tmp 5) (.const .nilIface)) Option.none),
  (.mk (Option.some 4) (.mv (.tmp 6)) Option.none)]) (.cond (.tmp 4) (.seq (.region [(.mk (Option.some 2) (.mv (.const (.int .i64 0))) Option.none)]) .ret) (.seq (.region [(.mk
  (Option.some 8) (.mv (.tmp 0)) Option.none), (.mk (Option.some 9) (.mkIface 79 (.tmp 3)) Option.none), (.mk (Option.some 10) (.call 55 [(.tmp 8), (.tmp 9)]) Option.none), (.mk
  (Option.some 7) (.mv (.tmp 10)) Option.none)]) (.cond (.tmp 7) (.seq (.region [(.mk (Option.some 11) (.load 1 Bool.false (.tmp 3)) Option.none), (.mk (Option.some 12) (.nilCheck
  (.tmp 11)) Option.none), (.mk (Option.some 13) (.fieldAddr 0 (.tmp 12)) Option.none), (.mk (Option.some 14) (.load 1 Bool.false (.tmp 13)) Option.none), (.mk (Option.some 2) (.mv
  (.tmp 14)) Option.none)]) .ret) .skip))))) (.seq (.region [(.mk (Option.some 2) (.mv (.const (.int .i64 2))) Option.none)]) .ret)))) 15 [(.tmp 2)])
def a37 : AFn :=
  (.mk (.seq (.region [(.mk (Option.some 2) (.mv (.const .nilIface)) Option.none)]) (.seq (.seq (.region [(.mk (Option.some 5) (.mv (.tmp 0)) Option.none), (.mk (Option.some 6) (.len
  (.tmp 5)) Option.none), (.mk (Option.some 7) (.bin .gtr (.tmp 6) (.const (.int .i64 8))) Option.none)]) (.cond (.tmp 7) (.seq (.region [(.mk (Option.some 8) (.mv (.tmp 0))
  Option.none), (.mk (Option.some 9) (.len (.tmp 8)) Option.none), (.mk (Option.some 10) (.call 57 [(.const (.int .i64 7))]) Option.none), (.mk (Option.some 11) (.call 56 [(.const
  (.int .i64 8)), (.tmp 9), (.tmp 10)]) Option.none), (.mk (Option.some 2) (.mv (.tmp 11)) Option.none)]) .ret) .skip)) (.seq (.seq (.region [(.mk (Option.some 12) (.mv (.tmp 0))
  Option.none), (.mk (Option.some 13) (.len (.tmp 12)) Option.none), (.mk (Option.some 14) (.mv (.const (.int .i64 0))) Option.none)]) (.block 0 (.loop (.seq (.region [(.mk
  (Option.some 15) (.bin .lss (.tmp 14) (.tmp 13)) Option.none)]) (.seq (.cond (.tmp 15) .skip (.exit 0)) (.seq (.block 1 (.seq (.region [(.mk (Option.some 16) (.mv (.tmp 14))
  Option.none), (.mk (Option.some 17) (.atSlice 4 (.tmp 12) (.tmp 14)) Option.none), (.mk (Option.some 18) (.load 4 Bool.true (.tmp 17)) Option.none), (.mk (Option.some 4) (.alloc
  [(.int .i64 0), (.str []), (.int .i64 0), (.int .i64 0)]) Option.none), (.mk (Option.some 3) (.mv (.tmp 16)) Option.none), (.mk Option.none (.store 4 (.tmp 4) (.tmp 18))
  Option.none)]) (.seq (.region [(.mk (Option.some 19) (.load 4 Bool.true (.tmp 4)) Option.none), (.mk (Option.some 20) (.call 31 [(.tmp 19)]) Option.none), (.mk (Option.some 21)
  (.un .not (.tmp 20)) Option.none), (.mk (Option.some 22) (.mv (.tmp 21)) Option.none), (.mk (Option.some 23) (.fieldAddr 1 (.tmp 4)) (Option.some (22, Bool.false))), (.mk
  (Option.some 24) (.load 1 Bool.false (.tmp 23)) (Option.some (22, Bool.false))), (.mk (Option.some 25) (.call 16 [(.tmp 24)]) (Option.some (22, Bool.false))), (.mk (Option.some
  26) (.un .not (.tmp 25)) (Option.some (22, Bool.false))), (.mk (Option.some 27) (.pick (.tmp 22) (.const (.bool Bool.true)) (.tmp 26)) Option.none)]) (.cond (.tmp 27) (.seq
  (.region [(.mk (Option.some 28) (.mv (.tmp 3)) Option.none), (.mk (Option.some 29) (.call 57 [(.const (.int .i64 2))]) Option.none), (.mk (Option.some 30) (.call 50 [(.tmp 28),
  (.tmp 29)]) Option.none), (.mk (Option.some 2) (.mv (.tmp 30)) Option.none)]) .ret) .skip)))) (.region [(.mk (Option.some 31) (.bin .add (.tmp 14) (.const (.int .i64 1)))
  Option.none), (.mk (Option.some 14) (.mv (.tmp 31)) Option.none)]))))))) (.seq (.region [(.mk (Option.some 2) (.mv (.const .nilIface)) Option.none)]) .ret)))) 32 [(.tmp 2)])
def a38 : AFn :=
  (.mk (.seq (.region [(.mk (Option.some 2) (.mv (.const (.bool Bool.false))) Option.none)]) (.seq (.seq (.region [(.mk (Option.some 5) (.mv (.tmp 0)) Option.none), (.mk (Option.some
  6) (.bytesOf (.tmp 5)) Option.none), (.mk (Option.some 7) (.len (.tmp 6)) Option.none), (.mk (Option.some 8) (.mv (.const (.int .i64 0))) Option.none)]) (.block 0 (.loop (.seq
  (.region [(.mk (Option.some 9) (.bin .lss (.tmp 8) (.tmp 7)) Option.none)]) (.seq (.cond (.tmp 9) .skip (.exit 0)) (.seq (.block 1 (.seq (.region [(.mk (Option.some 10) (.atSlice
  1 (.tmp 6) (.tmp 8)) Option.none), (.mk (Option.some 11) (.load 1 Bool.false (.tmp 10)) Option.none), (.mk (Option.some 4) (.mv (.tmp 11)) Option.none)]) (.seq (.region [(.mk
  (Option.some 12) (.mv (.tmp 4)) Option.none), (.mk (Option.some 13) (.bin .geq (.tmp 12) (.const (.int .u8 97))) Option.none), (.mk (Option.some 14) (.mv (.tmp 13)) Option.none),
  (.mk (Option.some 15) (.mv (.tmp 4)) (Option.some (14, Bool.true))), (.mk (Option.some 16) (.bin .leq (.tmp 15) (.const (.int .u8 122))) (Option.some (14, Bool.true))), (.mk
  (Option.some 17) (.pick (.tmp 14) (.tmp 16) (.const (.bool Bool.false))) Option.none), (.mk (Option.some 18) (.mv (.tmp 17)) Option.none), (.mk (Option.some 19) (.mv (.tmp 4))
  (Option.some (18, Bool.false))), (.mk (Option.some 20) (.bin .geq (.tmp 19) (.const (.int .u8 48))) (Option.some (18, Bool.false))), (.mk (Option.some 21) (.mv (.tmp 20))
  (Option.some (18, Bool.false))), (.mk (Option.some 22) (.mv (.tmp 4)) (Option.some (21, Bool.true))), (.mk (Option.some 23) (.bin .leq (.tmp 22) (.const (.int .u8 57)))
  (Option.some (21, Bool.true))), (.mk (Option.some 24) (.pick (.tmp 21) (.tmp 23) (.const (.bool Bool.false))) (Option.some (18, Bool.false))), (.mk (Option.some 25) (.pick (.tmp
  18) (.const (.bool Bool.true)) (.tmp 24)) Option.none), (.mk (Option.some 26) (.mv (.tmp 25)) Option.none), (.mk (Option.some 27) (.mv (.tmp 4)) (Option.some (26, Bool.false))),
  (.mk (Option.some 28) (.bin .eql (.tmp 27) (.const (.int .u8 46))) (Option.some (26, Bool.false))), (.mk (Option.some 29) (.pick (.tmp 26) (.const (.bool Bool.true)) (.tmp 28))
  Option.none), (.mk (Option.some 30) (.mv (.tmp 29)) Option.none), (.mk (Option.some 31) (.mv (.tmp 4)) (Option.some (30, Bool.false))), (.mk (Option.some 32) (.bin .eql (.tmp 31)
  (.const (.int .u8 95))) (Option.some (30, Bool.false))), (.mk (Option.some 33) (.pick (.tmp 30) (.const (.bool Bool.true)) (.tmp 32)) Option.none), (.mk (Option.some 34) (.un
  .not (.tmp 33)) Option.none)]) (.cond (.tmp 34) (.seq (.region [(.mk (Option.some 2) (.mv (.const (.bool Bool.false))) Option.none)]) .ret) .skip)))) (.region [(.mk (Option.some
  35) (.bin .add (.tmp 8) (.const (.int .i64 1))) Option.none), (.mk (Option.some 8) (.mv (.tmp 35)) Option.none)]))))))) (.seq (.region [(.mk (Option.some 36) (.mv (.tmp 0))
  Option.none), (.mk (Option.some 37) (.bin .neq (.tmp 36) (.const (.string (ByteArray.mk #[])))) Option.none), (.mk (Option.some 2) (.mv (.tmp 37)) Option.none)]) .ret))) 38
  [(.tmp 2)])
def a39 : AFn :=
  (.mk (.seq (.region [(.mk (Option.some 3) (.box (.tmp 1)) Option.none), (.mk (Option.some 4) (.mv (.const (.bool Bool.false))) Option.none)]) (.seq (.region [(.mk (Option.some 5)
  (.mv (.tmp 0)) Option.none), (.mk (Option.some 6) (.mkFunc (.func 58) [] [(.tmp 3)]) Option.none), (.mk (Option.some 7) (.call 29 [(.tmp 5), (.tmp 6)]) Option.none), (.mk
  (Option.some 8) (.un .not (.tmp 7)) Option.none), (.mk (Option.some 4) (.mv (.tmp 8)) Option.none)]) .ret)) 9 [(.tmp 4)])
def a40 : AFn :=
  (.mk (.seq (.region [(.mk (Option.some 1) (.box (.tmp 0)) Option.none), (.mk (Option.some 2) (.mv (.const (.bool Bool.false))) Option.none)]) (.seq (.region [(.mk (Option.some 3)
  (.load 4 Bool.true (.tmp 1)) Option.none), (.mk (Option.some 4) (.call 13 [(.tmp 3)]) Option.none), (.mk (Option.some 5) (.un .not (.tmp 4)) Option.none), (.mk (Option.some 2)
  (.mv (.tmp 5)) Option.none)]) .ret)) 6 [(.tmp 2)])
def a41 : AFn :=
  (.mk (.seq (.region [(.mk (Option.some 4) (.mv (.const (.bool Bool.false))) Option.none)]) (.seq (.seq (.region [(.mk (Option.some 9) (.mv (.tmp 0)) Option.none), (.mk (Option.some
  10) (.len (.tmp 9)) Option.none), (.mk (Option.some 11) (.mv (.const (.int .i64 0))) Option.none)]) (.block 0 (.loop (.seq (.region [(.mk (Option.some 12) (.bin .lss (.tmp 11)
  (.tmp 10)) Option.none)]) (.seq (.cond (.tmp 12) .skip (.exit 0)) (.seq (.block 1 (.seq (.region [(.mk (Option.some 13) (.atSlice 4 (.tmp 9) (.tmp 11)) Option.none), (.mk
  (Option.some 14) (.load 4 Bool.true (.tmp 13)) Option.none), (.mk (Option.some 6) (.alloc [(.int .i64 0), (.str []), (.int .i64 0), (.int .i64 0)]) Option.none), (.mk Option.none
  (.store 4 (.tmp 6) (.tmp 14)) Option.none)]) (.seq (.region [(.mk (Option.some 7) (.mv (.const (.bool Bool.false))) Option.none)]) (.seq (.seq (.region [(.mk (Option.some 8) (.mv
  (.const (.int .i64 0))) Option.none)]) (.block 2 (.loop (.seq (.seq (.region [(.mk (Option.some 15) (.mv (.tmp 8)) Option.none), (.mk (Option.some 16) (.mv (.tmp 1))
  Option.none), (.mk (Option.some 17) (.lenStr (.tmp 16)) Option.none), (.mk (Option.some 18) (.bin .lss (.tmp 15) (.tmp 17)) Option.none)]) (.cond (.tmp 18) .skip (.exit 2)))
  (.seq (.block 3 (.draws [((.mk (Option.some 21) (.mv (.tmp 7)) Option.none), (0, 12)), ((.mk (Option.some 22) (.mv (.tmp 21)) Option.none), (0, 12)), ((.mk (Option.some 23)
  (.fieldAddr 0 (.tmp 6)) (Option.some (22, Bool.false))), (0, 12)), ((.mk (Option.some 24) (.load 1 Bool.false (.tmp 23)) (Option.some (22, Bool.false))), (0, 12)), ((.mk
  (Option.some 25) (.mv (.tmp 1)) (Option.some (22, Bool.false))), (0, 12)), ((.mk (Option.some 26) (.mv (.tmp 8)) (Option.some (22, Bool.false))), (0, 12)), ((.mk (Option.some 27)
  (.byteAt (.tmp 25) (.tmp 26)) (Option.some (22, Bool.false))), (0, 12)), ((.mk (Option.some 28) (.bin .sub (.tmp 27) (.const (.int .u8 48))) (Option.some (22, Bool.false))), (0,
  12)), ((.mk (Option.some 29) (.conv .i64 (.tmp 28)) (Option.some (22, Bool.false))), (0, 12)), ((.mk (Option.some 30) (.bin .eql (.tmp 24) (.tmp 29)) (Option.some (22,
  Bool.false))), (0, 12)), ((.mk (Option.some 31) (.pick (.tmp 22) (.const (.bool Bool.true)) (.tmp 30)) Option.none), (0, 12)), ((.mk (Option.some 7) (.mv (.tmp 31)) Option.none),
  (0, 12))])) (.region [(.mk (Option.some 19) (.mv (.tmp 8)) Option.none), (.mk (Option.some 20) (.bin .add (.tmp 19) (.const (.int .i64 1))) Option.none), (.mk (Option.some 8)
  (.mv (.tmp 20)) Option.none)])))))) (.seq (.region [(.mk (Option.some 32) (.mv (.tmp 7)) Option.none), (.mk (Option.some 33) (.un .not (.tmp 32)) Option.none)]) (.cond (.tmp 33)
  (.seq (.region [(.mk (Option.some 4) (.mv (.const (.bool Bool.false))) Option.none)]) .ret) .skip)))))) (.region [(.mk (Option.some 34) (.bin .add (.tmp 11) (.const (.int .i64
  1))) Option.none), (.mk (Option.some 11) (.mv (.tmp 34)) Option.none)]))))))) (.seq (.region [(.mk (Option.some 4) (.mv (.const (.bool Bool.true))) Option.none)]) .ret))) 35
  [(.tmp 4)])
def a42 : AFn :=
  (.mk (.seq (.region [(.mk (Option.some 2) (.mv (.const (.slice Option.none 0 0))) Option.none)]) (.seq (.region [(.mk (Option.some 3) (.mv (.const (.int .i64 0))) Option.none)])
  (.seq (.seq (.region [(.mk (Option.some 9) (.mv (.tmp 0)) Option.none), (.mk (Option.some 10) (.len (.tmp 9)) Option.none), (.mk (Option.some 11) (.mv (.const (.int .i64 0)))
  Option.none)]) (.block 0 (.loop (.seq (.region [(.mk (Option.some 12) (.bin .lss (.tmp 11) (.tmp 10)) Option.none)]) (.seq (.cond (.tmp 12) .skip (.exit 0)) (.seq (.block 1 (.seq
  (.region [(.mk (Option.some 13) (.atSlice 1 (.tmp 9) (.tmp 11)) Option.none), (.mk (Option.some 14) (.load 1 Bool.false (.tmp 13)) Option.none), (.mk (Option.some 5) (.mv (.tmp
  14)) Option.none)]) (.seq (.region [(.mk (Option.some 15) (.mv (.tmp 3)) Option.none), (.mk (Option.some 16) (.mv (.tmp 5)) Option.none), (.mk (Option.some 17) (.len (.tmp 16))
  Option.none), (.mk (Option.some 18) (.bin .add (.tmp 15) (.tmp 17)) Option.none), (.mk (Option.some 3) (.mv (.tmp 18)) Option.none)]) (.seq (.region [(.mk (Option.some 19) (.mv
  (.tmp 3)) Option.none), (.mk (Option.some 20) (.bin .lss (.tmp 19) (.const (.int .i64 0))) Option.none)]) (.cond (.tmp 20) (.region [(.mk (Option.some 21) (.mkIface 9 (.const
  (.string (ByteArray.mk #[108, 101, 110, 32, 111, 117, 116, 32, 111, 102, 32, 114, 97, 110, 103, 101])))) Option.none), (.mk Option.none (.extract (.const (.bool Bool.false)) 0)
  Option.none)]) .skip))))) (.region [(.mk (Option.some 22) (.bin .add (.tmp 11) (.const (.int .i64 1))) Option.none), (.mk (Option.some 11) (.mv (.tmp 22)) Option.none)])))))))
  (.seq (.region [(.mk (Option.some 23) (.mv (.tmp 3)) Option.none), (.mk (Option.some 24) (.call 60 [(.const (.slice Option.none 0 0)), (.tmp 23)]) Option.none), (.mk (Option.some
  6) (.mv (.tmp 24)) Option.none)]) (.seq (.seq (.region [(.mk (Option.some 25) (.mv (.tmp 0)) Option.none), (.mk (Option.some 26) (.len (.tmp 25)) Option.none), (.mk (Option.some
  27) (.mv (.const (.int .i64 0))) Option.none)]) (.block 2 (.loop (.seq (.region [(.mk (Option.some 28) (.bin .lss (.tmp 27) (.tmp 26)) Option.none)]) (.seq (.cond (.tmp 28) .skip
  (.exit 2)) (.seq (.block 3 (.seq (.region [(.mk (Option.some 29) (.atSlice 1 (.tmp 25) (.tmp 27)) Option.none), (.mk (Option.some 30) (.load 1 Bool.false (.tmp 29)) Option.none),
  (.mk (Option.some 8) (.mv (.tmp 30)) Option.none)]) (.region [(.mk (Option.some 31) (.mv (.tmp 6)) Option.none), (.mk (Option.some 32) (.mv (.tmp 8)) Option.none), (.mk
  (Option.some 33) (.append Bool.false 4 40 (.tmp 31) (.tmp 32)) Option.none), (.mk (Option.some 6) (.mv (.tmp 33)) Option.none)]))) (.region [(.mk (Option.some 34) (.bin .add
  (.tmp 27) (.const (.int .i64 1))) Option.none), (.mk (Option.some 27) (.mv (.tmp 34)) Option.none)]))))))) (.seq (.region [(.mk (Option.some 35) (.mv (.tmp 6)) Option.none), (.mk
  (Option.some 2) (.mv (.tmp 35)) Option.none)]) .ret)))))) 36 [(.tmp 2)])
def a43 : AFn :=
  (.mk (.seq (.region [(.mk (Option.some 3) (.mv (.tmp 0)) Option.none), (.mk (Option.some 4) (.len (.tmp 3)) Option.none), (.mk (Option.some 2) (.mv (.tmp 4)) Option.none)])
  (.region [(.mk (Option.some 5) (.mv (.tmp 0)) Option.none), (.mk (Option.some 6) (.mv (.tmp 2)) Option.none), (.mk (Option.some 7) (.mv (.tmp 2)) Option.none), (.mk (Option.some
  8) (.conv .u64 (.tmp 7)) Option.none), (.mk (Option.some 9) (.call 62 [(.tmp 8)]) Option.none), (.mk (Option.some 10) (.call 61 [(.tmp 5), (.const (.int .i64 0)), (.tmp 6), (.tmp
  9)]) Option.none)])) 11 [])
def a44 : AFn :=
  (.mk (.seq (.region [(.mk (Option.some 2) (.mv (.const (.slice Option.none 0 0))) Option.none)]) (.seq (.seq (.region [(.mk (Option.some 6) (.mv (.tmp 0)) Option.none), (.mk
  (Option.some 7) (.len (.tmp 6)) Option.none), (.mk (Option.some 8) (.bin .lss (.tmp 7) (.const (.int .i64 2))) Option.none)]) (.cond (.tmp 8) (.seq (.region [(.mk (Option.some 9)
  (.mv (.tmp 0)) Option.none), (.mk (Option.some 2) (.mv (.tmp 9)) Option.none)]) .ret) .skip)) (.seq (.seq (.region [(.mk (Option.some 3) (.mv (.const (.int .i64 1)))
  Option.none)]) (.block 0 (.loop (.seq (.seq (.region [(.mk (Option.some 10) (.mv (.tmp 3)) Option.none), (.mk (Option.some 11) (.mv (.tmp 0)) Option.none), (.mk (Option.some 12)
  (.len (.tmp 11)) Option.none), (.mk (Option.some 13) (.bin .lss (.tmp 10) (.tmp 12)) Option.none)]) (.cond (.tmp 13) .skip (.exit 0))) (.seq (.block 1 (.seq (.draws [((.mk
  (Option.some 16) (.mv (.tmp 0)) Option.none), (0, 10)), ((.mk (Option.some 17) (.mv (.tmp 3)) Option.none), (0, 10)), ((.mk (Option.some 18) (.atSlice 1 (.tmp 16) (.tmp 17))
  Option.none), (0, 10)), ((.mk (Option.some 19) (.load 1 Bool.false (.tmp 18)) Option.none), (0, 10)), ((.mk (Option.some 20) (.mv (.tmp 0)) Option.none), (0, 10)), ((.mk
  (Option.some 21) (.mv (.tmp 3)) Option.none), (0, 10)), ((.mk (Option.some 22) (.bin .sub (.tmp 21) (.const (.int .i64 1))) Option.none), (0, 10)), ((.mk (Option.some 23)
  (.atSlice 1 (.tmp 20) (.tmp 22)) Option.none), (0, 10)), ((.mk (Option.some 24) (.load 1 Bool.false (.tmp 23)) Option.none), (0, 10)), ((.mk (Option.some 25) (.bin .eql (.tmp 19)
  (.tmp 24)) Option.none), (0, 10))]) (.cond (.tmp 25) (.seq (.region [(.mk (Option.some 26) (.mv (.tmp 0)) Option.none), (.mk (Option.some 27) (.mv (.tmp 3)) Option.none), (.mk
  (Option.some 28) (.cutSlice 1 (.tmp 26) (Option.some (.tmp 27)) Option.none Option.none) Option.none), (.mk (Option.some 4) (.mv (.tmp 28)) Option.none)]) (.seq (.seq (.region
  [(.mk (Option.some 5) (.mv (.const (.int .i64 1))) Option.none)]) (.block 2 (.loop (.seq (.seq (.region [(.mk (Option.some 29) (.mv (.tmp 5)) Option.none), (.mk (Option.some 30)
  (.mv (.tmp 4)) Option.none), (.mk (Option.some 31) (.len (.tmp 30)) Option.none), (.mk (Option.some 32) (.bin .lss (.tmp 29) (.tmp 31)) Option.none)]) (.cond (.tmp 32) .skip
  (.exit 2))) (.seq (.block 3 (.seq (.draws [((.mk (Option.some 35) (.mv (.tmp 4)) Option.none), (0, 10)), ((.mk (Option.some 36) (.mv (.tmp 5)) Option.none), (0, 10)), ((.mk
  (Option.some 37) (.atSlice 1 (.tmp 35) (.tmp 36)) Option.none), (0, 10)), ((.mk (Option.some 38) (.load 1 Bool.false (.tmp 37)) Option.none), (0, 10)), ((.mk (Option.some 39)
  (.mv (.tmp 4)) Option.none), (0, 10)), ((.mk (Option.some 40) (.mv (.tmp 5)) Option.none), (0, 10)), ((.mk (Option.some 41) (.bin .sub (.tmp 40) (.const (.int .i64 1)))
  Option.none), (0, 10)), ((.mk (Option.some 42) (.atSlice 1 (.tmp 39) (.tmp 41)) Option.none), (0, 10)), ((.mk (Option.some 43) (.load 1 Bool.false (.tmp 42)) Option.none), (0,
  10)), ((.mk (Option.some 44) (.bin .neq (.tmp 38) (.tmp 43)) Option.none), (0, 10))]) (.cond (.tmp 44) (.seq (.region [(.mk (Option.some 45) (.mv (.tmp 0)) Option.none), (.mk
  (Option.some 46) (.mv (.tmp 3)) Option.none), (.mk (Option.some 47) (.mv (.tmp 4)) Option.none), (.mk (Option.some 48) (.mv (.tmp 5)) Option.none), (.mk (Option.some 49)
  (.atSlice 1 (.tmp 47) (.tmp 48)) Option.none), (.mk (Option.some 50) (.load 1 Bool.false (.tmp 49)) Option.none), (.mk (Option.some 51) (.atSlice 1 (.tmp 45) (.tmp 46))
  Option.none), (.mk Option.none (.store 1 (.tmp 51) (.tmp 50)) Option.none)]) (.region [(.mk (Option.some 52) (.mv (.tmp 3)) Option.none), (.mk (Option.some 53) (.bin .add (.tmp
  52) (.const (.int .i64 1))) Option.none), (.mk (Option.some 3) (.mv (.tmp 53)) Option.none)])) .skip))) (.region [(.mk (Option.some 33) (.mv (.tmp 5)) Option.none), (.mk
  (Option.some 34) (.bin .add (.tmp 33) (.const (.int .i64 1))) Option.none), (.mk (Option.some 5) (.mv (.tmp 34)) Option.none)])))))) (.seq (.region [(.mk (Option.some 54) (.mv
  (.tmp 0)) Option.none), (.mk (Option.some 55) (.mv (.tmp 3)) Option.none), (.mk (Option.some 56) (.cutSlice 1 (.tmp 54) (Option.some (.tmp 55)) Option.none Option.none)
  Option.none), (.mk Option.none (.clearS [(.str [])] (.tmp 56)) Option.none)]) (.seq (.region [(.mk (Option.some 57) (.mv (.tmp 0)) Option.none), (.mk (Option.some 58) (.mv (.tmp
  3)) Option.none), (.mk (Option.some 59) (.cutSlice 1 (.tmp 57) Option.none (Option.some (.tmp 58)) Option.none) Option.none), (.mk (Option.some 2) (.mv (.tmp 59)) Option.none)])
  .ret)))) .skip))) (.region [(.mk (Option.some 14) (.mv (.tmp 3)) Option.none), (.mk (Option.some 15) (.bin .add (.tmp 14) (.const (.int .i64 1))) Option.none), (.mk (Option.some
  3) (.mv (.tmp 15)) Option.none)])))))) (.seq (.region [(.mk (Option.some 60) (.mv (.tmp 0)) Option.none), (.mk (Option.some 2) (.mv (.tmp 60)) Option.none)]) .ret)))) 61 [(.tmp
  2)])
def a45 : AFn :=
  (.mk (.seq (.region [(.mk (Option.some 4) (.mv (.const (.int .i64 0))) Option.none), (.mk (Option.some 5) (.mv (.const (.bool Bool.false))) Option.none)]) (.seq (.region [(.mk
  (Option.some 7) (.mv (.tmp 0)) Option.none), (.mk (Option.some 8) (.mv (.tmp 1)) Option.none), (.mk (Option.some 9) (.bin .add (.tmp 7) (.tmp 8)) Option.none), (.mk (Option.some
  6) (.mv (.tmp 9)) Option.none)]) (.seq (.region [(.mk (Option.some 10) (.mv (.tmp 6)) Option.none), (.mk (Option.some 11) (.mv (.tmp 6)) Option.none), (.mk (Option.some 12) (.mv
  (.tmp 0)) Option.none), (.mk (Option.some 13) (.bin .lss (.tmp 11) (.tmp 12)) Option.none), (.mk (Option.some 14) (.mv (.tmp 1)) Option.none), (.mk (Option.some 15) (.bin .lss
  (.tmp 14) (.const (.int .i64 0))) Option.none), (.mk (Option.some 16) (.eqb Bool.false (.tmp 13) (.tmp 15)) Option.none), (.mk (Option.some 4) (.mv (.tmp 10)) Option.none), (.mk
  (Option.some 5) (.mv (.tmp 16)) Option.none)]) .ret))) 17 [(.tmp 4), (.tmp 5)])
def a46 : AFn :=
  (.mk (.seq (.region [(.mk (Option.some 4) (.mv (.const (.int .i64 0))) Option.none)]) (.seq (.seq (.region [(.mk (Option.some 6) (.mv (.tmp 0)) Option.none), (.mk (Option.some 7)
  (.len (.tmp 6)) Option.none), (.mk (Option.some 8) (.mv (.const (.int .i64 0))) Option.none)]) (.block 0 (.loop (.seq (.region [(.mk (Option.some 9) (.bin .lss (.tmp 8) (.tmp 7))
  Option.none)]) (.seq (.cond (.tmp 9) .skip (.exit 0)) (.seq (.block 1 (.seq (.region [(.mk (Option.some 10) (.mv (.tmp 8)) Option.none), (.mk (Option.some 5) (.mv (.tmp 10))
  Option.none)]) (.seq (.region [(.mk (Option.some 11) (.mv (.tmp 1)) Option.none), (.mk (Option.some 12) (.mv (.tmp 0)) Option.none), (.mk (Option.some 13) (.mv (.tmp 5))
  Option.none), (.mk (Option.some 14) (.atSlice 4 (.tmp 12) (.tmp 13)) Option.none), (.mk (Option.some 15) (.load 4 Bool.true (.tmp 14)) Option.none), (.mk (Option.some 16) (.callv
  (.tmp 11) [(.tmp 15)]) Option.none)]) (.cond (.tmp 16) (.seq (.region [(.mk (Option.some 17) (.mv (.tmp 5)) Option.none), (.mk (Option.some 4) (.mv (.tmp 17)) Option.none)])
  .ret) .skip)))) (.region [(.mk (Option.some 18) (.bin .add (.tmp 8) (.const (.int .i64 1))) Option.none), (.mk (Option.some 8) (.mv (.tmp 18)) Option.none)]))))))) (.seq (.region
  [(.mk (Option.some 4) (.mv (.const (.int .i64 (-1)))) Option.none)]) .ret))) 19 [(.tmp 4)])
def a47 : AFn :=
  (.mk (.seq (.region [(.mk (Option.some 2) (.mv (.const (.slice Option.none 0 0))) Option.none)]) (.seq (.region [(.mk (Option.some 3) (.mv (.const (.slice Option.none 0 0)))
  Option.none)]) (.seq (.seq (.region [(.mk (Option.some 6) (.mv (.tmp 0)) Option.none), (.mk (Option.some 7) (.call 48 [(.tmp 6), (.const (.string (ByteArray.mk #[32])))])
  Option.none), (.mk (Option.some 8) (.len (.tmp 7)) Option.none), (.mk (Option.some 9) (.mv (.const (.int .i64 0))) Option.none)]) (.block 0 (.loop (.seq (.region [(.mk
  (Option.some 10) (.bin .lss (.tmp 9) (.tmp 8)) Option.none)]) (.seq (.cond (.tmp 10) .skip (.exit 0)) (.seq (.block 1 (.seq (.region [(.mk (Option.some 11) (.atSlice 1 (.tmp 7)
  (.tmp 9)) Option.none), (.mk (Option.some 12) (.load 1 Bool.false (.tmp 11)) Option.none), (.mk (Option.some 5) (.mv (.tmp 12)) Option.none)]) (.seq (.region [(.mk (Option.some
  13) (.mv (.tmp 5)) Option.none), (.mk (Option.some 14) (.bin .neq (.tmp 13) (.const (.string (ByteArray.mk #[])))) Option.none)]) (.cond (.tmp 14) (.region [(.mk (Option.some 15)
  (.mv (.tmp 3)) Option.none), (.mk (Option.some 16) (.mv (.tmp 5)) Option.none), (.mk (Option.some 17) (.buildSlice 1 1 [(.str [])] [(0, (1, (.tmp 16)))]) Option.none), (.mk
  (Option.some 18) (.append Bool.false 1 16 (.tmp 15) (.tmp 17)) Option.none), (.mk (Option.some 3) (.mv (.tmp 18)) Option.none)]) .skip)))) (.region [(.mk (Option.some 19) (.bin
  .add (.tmp 9) (.const (.int .i64 1))) Option.none), (.mk (Option.some 9) (.mv (.tmp 19)) Option.none)]))))))) (.seq (.region [(.mk (Option.some 20) (.mv (.tmp 3)) Option.none),
  (.mk (Option.some 2) (.mv (.tmp 20)) Option.none)]) .ret)))) 21 [(.tmp 2)])
def a48 : AFn :=
  (.mk (.seq (.region [(.mk (Option.some 4) (.mv (.const (.slice Option.none 0 0))) Option.none)]) (.seq (.region [(.mk (Option.some 5) (.mv (.tmp 0)) Option.none), (.mk (Option.some
  6) (.mv (.tmp 1)) Option.none), (.mk (Option.some 7) (.call 63 [(.tmp 5), (.tmp 6), (.const (.int .i64 0)), (.const (.int .i64 (-1)))]) Option.none), (.mk (Option.some 4) (.mv
  (.tmp 7)) Option.none)]) .ret)) 8 [(.tmp 4)])
def a49 : AFn :=
  (.mk (.seq (.region [(.mk (Option.some 2) (.alloc [(.int .i64 0), (.str []), (.int .i64 0), (.int .i64 0)]) Option.none), (.mk (Option.some 3) (.mv (.const .nilIface))
  Option.none)]) (.seq (.region [(.mk (Option.some 9) (.mv (.tmp 0)) Option.none), (.mk (Option.some 10) (.call 47 [(.tmp 9)]) Option.none), (.mk (Option.some 4) (.mv (.tmp 10))
  Option.none)]) (.seq (.region [(.mk (Option.some 11) (.build [(.int .i64 0), (.str []), (.int .i64 0), (.int .i64 0)] []) Option.none), (.mk (Option.some 5) (.alloc [(.int .i64
  0), (.str []), (.int .i64 0), (.int .i64 0)]) Option.none), (.mk Option.none (.store 4 (.tmp 5) (.tmp 11)) Option.none)]) (.seq (.seq (.region [(.mk (Option.some 6) (.mv (.const
  (.int .i64 1))) Option.none)]) (.block 0 (.loop (.seq (.seq (.region [(.mk (Option.some 12) (.mv (.tmp 6)) Option.none), (.mk (Option.some 13) (.bin .leq (.tmp 12) (.const (.int
  .i64 6))) Option.none), (.mk (Option.some 14) (.mv (.tmp 13)) Option.none), (.mk (Option.some 15) (.mv (.tmp 4)) (Option.some (14, Bool.true))), (.mk (Option.some 16) (.len (.tmp
  15)) (Option.some (14, Bool.true))), (.mk (Option.some 17) (.bin .gtr (.tmp 16) (.const (.int .i64 0))) (Option.some (14, Bool.true))), (.mk (Option.some 18) (.pick (.tmp 14)
  (.tmp 17) (.const (.bool Bool.false))) Option.none)]) (.cond (.tmp 18) .skip (.exit 0))) (.seq (.block 1 (.seq (.draws [((.mk (Option.some 21) (.mv (.tmp 6)) Option.none), (0,
  1)), ((.mk (Option.some 22) (.call 64 [(.tmp 21)]) Option.none), (0, 6)), ((.mk (Option.some 23) (.mv (.tmp 4)) Option.none), (0, 6)), ((.mk (Option.some 24) (.atSlice 1 (.tmp
  23) (.const (.int .i64 0))) Option.none), (0, 6)), ((.mk (Option.some 25) (.load 1 Bool.false (.tmp 24)) Option.none), (0, 6)), ((.mk (Option.some 26) (.bin .eql (.tmp 22) (.tmp
  25)) Option.none), (2, 6))]) (.cond (.tmp 26) (.region [(.mk (Option.some 27) (.mv (.tmp 6)) Option.none), (.mk (Option.some 28) (.fieldAddr 0 (.tmp 5)) Option.none), (.mk
  Option.none (.store 1 (.tmp 28) (.tmp 27)) Option.none)]) .skip))) (.region [(.mk (Option.some 19) (.mv (.tmp 6)) Option.none), (.mk (Option.some 20) (.bin .add (.tmp 19) (.const
  (.int .i64 1))) Option.none), (.mk (Option.some 6) (.mv (.tmp 20)) Option.none)])))))) (.seq (.region [(.mk (Option.some 7) (.mv (.const .nilIface)) Option.none), (.mk
  (Option.some 8) (.mv (.const .nilIface)) Option.none)]) (.seq (.block 2 (.seq (.block 6 (.seq (.block 5 (.seq (.block 4 (.seq (.block 3 (.seq (.seq (.seq (.region [(.mk
  (Option.some 30) (.fieldAddr 0 (.tmp 5)) Option.none), (.mk (Option.some 31) (.load 1 Bool.false (.tmp 30)) Option.none), (.mk (Option.some 32) (.bin .eql (.tmp 31) (.const (.int
  .i64 5))) Option.none), (.mk (Option.some 33) (.mv (.tmp 32)) Option.none), (.mk (Option.some 34) (.mv (.tmp 4)) (Option.some (33, Bool.true))), (.mk (Option.some 35) (.len (.tmp
  34)) (Option.some (33, Bool.true))), (.mk (Option.some 36) (.bin .eql (.tmp 35) (.const (.int .i64 4))) (Option.some (33, Bool.true))), (.mk (Option.some 37) (.pick (.tmp 33)
  (.tmp 36) (.const (.bool Bool.false))) Option.none), (.mk (Option.some 29) (.mv (.tmp 37)) Option.none)]) (.cond (.tmp 29) (.exit 3) .skip)) (.seq (.seq (.region [(.mk
  (Option.some 39) (.fieldAddr 0 (.tmp 5)) Option.none), (.mk (Option.some 40) (.load 1 Bool.false (.tmp 39)) Option.none), (.mk (Option.some 41) (.bin .eql (.tmp 40) (.const (.int
  .i64 2))) Option.none), (.mk (Option.some 42) (.mv (.tmp 41)) Option.none), (.mk (Option.some 43) (.fieldAddr 0 (.tmp 5)) (Option.some (42, Bool.false))), (.mk (Option.some 44)
  (.load 1 Bool.false (.tmp 43)) (Option.some (42, Bool.false))), (.mk (Option.some 45) (.bin .eql (.tmp 44) (.const (.int .i64 4))) (Option.some (42, Bool.false))), (.mk
  (Option.some 46) (.pick (.tmp 42) (.const (.bool Bool.true)) (.tmp 45)) Option.none), (.mk (Option.some 47) (.mv (.tmp 46)) Option.none), (.mk (Option.some 48) (.fieldAddr 0
  (.tmp 5)) (Option.some (47, Bool.false))), (.mk (Option.some 49) (.load 1 Bool.false (.tmp 48)) (Option.some (47, Bool.false))), (.mk (Option.some 50) (.bin .eql (.tmp 49)
  (.const (.int .i64 6))) (Option.some (47, Bool.false))), (.mk (Option.some 51) (.pick (.tmp 47) (.const (.bool Bool.true)) (.tmp 50)) Option.none), (.mk (Option.some 52) (.mv
  (.tmp 51)) Option.none), (.mk (Option.some 53) (.mv (.tmp 4)) (Option.some (52, Bool.true))), (.mk (Option.some 54) (.len (.tmp 53)) (Option.some (52, Bool.true))), (.mk
  (Option.some 55) (.bin .eql (.tmp 54) (.const (.int .i64 3))) (Option.some (52, Bool.true))), (.mk (Option.some 56) (.pick (.tmp 52) (.tmp 55) (.const (.bool Bool.false)))
  Option.none), (.mk (Option.some 38) (.mv (.tmp 56)) Option.none)]) (.cond (.tmp 38) (.exit 4) .skip)) (.seq (.region [(.mk (Option.some 58) (.fieldAddr 0 (.tmp 5)) Option.none),
  (.mk (Option.some 59) (.load 1 Bool.false (.tmp 58)) Option.none), (.mk (Option.some 60) (.bin .eql (.tmp 59) (.const (.int .i64 1))) Option.none), (.mk (Option.some 61) (.mv
  (.tmp 60)) Option.none), (.mk (Option.some 62) (.fieldAddr 0 (.tmp 5)) (Option.some (61, Bool.false))), (.mk (Option.some 63) (.load 1 Bool.false (.tmp 62)) (Option.some (61,
  Bool.false))), (.mk (Option.some 64) (.bin .eql (.tmp 63) (.const (.int .i64 3))) (Option.some (61, Bool.false))), (.mk (Option.some 65) (.pick (.tmp 61) (.const (.bool
  Bool.true)) (.tmp 64)) Option.none), (.mk (Option.some 66) (.mv (.tmp 65)) Option.none), (.mk (Option.some 67) (.mv (.tmp 4)) (Option.some (66, Bool.true))), (.mk (Option.some
  68) (.len (.tmp 67)) (Option.some (66, Bool.true))), (.mk (Option.some 69) (.bin .eql (.tmp 68) (.const (.int .i64 2))) (Option.some (66, Bool.true))), (.mk (Option.some 70)
  (.pick (.tmp 66) (.tmp 69) (.const (.bool Bool.false))) Option.none), (.mk (Option.some 57) (.mv (.tmp 70)) Option.none)]) (.cond (.tmp 57) (.exit 5) .skip)))) (.exit 6)))
  (.region [(.mk (Option.some 72) (.mv (.tmp 4)) Option.none), (.mk (Option.some 73) (.atSlice 1 (.tmp 72) (.const (.int .i64 3))) Option.none), (.mk (Option.some 74) (.load 1
  Bool.false (.tmp 73)) Option.none), (.mk (Option.some 75) (.call 65 [(.tmp 74)]) Option.none), (.mk (Option.some 71) (.mv (.tmp 75)) Option.none), (.mk (Option.some 76) (.extract
  (.tmp 71) 0) Option.none), (.mk (Option.some 77) (.extract (.tmp 71) 1) Option.none), (.mk (Option.some 78) (.fieldAddr 3 (.tmp 5)) Option.none), (.mk Option.none (.store 1 (.tmp
  78) (.tmp 76)) Option.none), (.mk (Option.some 7) (.mv (.tmp 77)) Option.none)]))) (.region [(.mk (Option.some 80) (.mv (.tmp 4)) Option.none), (.mk (Option.some 81) (.atSlice 1
  (.tmp 80) (.const (.int .i64 2))) Option.none), (.mk (Option.some 82) (.load 1 Bool.false (.tmp 81)) Option.none), (.mk (Option.some 83) (.call 65 [(.tmp 82)]) Option.none), (.mk
  (Option.some 79) (.mv (.tmp 83)) Option.none), (.mk (Option.some 84) (.extract (.tmp 79) 0) Option.none), (.mk (Option.some 85) (.extract (.tmp 79) 1) Option.none), (.mk
  (Option.some 86) (.fieldAddr 2 (.tmp 5)) Option.none), (.mk Option.none (.store 1 (.tmp 86) (.tmp 84)) Option.none), (.mk (Option.some 8) (.mv (.tmp 85)) Option.none)]))) (.seq
  (.region [(.mk (Option.some 87) (.mv (.tmp 4)) Option.none), (.mk (Option.some 88) (.atSlice 1 (.tmp 87) (.const (.int .i64 1))) Option.none), (.mk (Option.some 89) (.load 1
  Bool.false (.tmp 88)) Option.none), (.mk (Option.some 90) (.fieldAddr 1 (.tmp 5)) Option.none), (.mk Option.none (.store 1 (.tmp 90) (.tmp 89)) Option.none)]) (.exit 2)))) (.seq
  (.seq (.draws [((.mk (Option.some 91) (.load 4 Bool.true (.tmp 5)) Option.none), (0, 2)), ((.mk (Option.some 92) (.call 57 [(.const (.int .i64 6))]) Option.none), (0, 2)), ((.mk
  Option.none (.store 4 (.tmp 2) (.tmp 91)) Option.none), (2, 4)), ((.mk (Option.some 3) (.mv (.tmp 92)) Option.none), (3, 4))]) .ret) (.exit 2)))) (.seq (.seq (.region [(.mk
  (Option.some 93) (.fieldAddr 1 (.tmp 5)) Option.none), (.mk (Option.some 94) (.load 1 Bool.false (.tmp 93)) Option.none), (.mk (Option.some 95) (.call 16 [(.tmp 94)])
  Option.none), (.mk (Option.some 96) (.un .not (.tmp 95)) Option.none)]) (.cond (.tmp 96) (.draws [((.mk (Option.some 97) (.fieldAddr 1 (.tmp 5)) Option.none), (0, 3)), ((.mk
  (Option.some 98) (.load 1 Bool.false (.tmp 97)) Option.none), (0, 3)), ((.mk (Option.some 99) (.call 57 [(.const (.int .i64 6))]) Option.none), (0, 3)), ((.mk (Option.some 100)
  (.call 66 [(.tmp 98), (.tmp 99)]) Option.none), (3, 5)), ((.mk (Option.some 7) (.mv (.tmp 100)) Option.none), (4, 5))]) .skip)) (.seq (.draws [((.mk (Option.some 101) (.load 4
  Bool.true (.tmp 5)) Option.none), (0, 5)), ((.mk (Option.some 102) (.mv (.tmp 7)) Option.none), (0, 3)), ((.mk (Option.some 103) (.mv (.tmp 8)) Option.none), (0, 3)), ((.mk
  (Option.some 104) (.buildSlice 2 1 [.nilIface, .nilIface] [(0, (1, (.tmp 102))), (1, (1, (.tmp 103)))]) Option.none), (0, 4)), ((.mk (Option.some 105) (.call 67 [(.tmp 104)])
  Option.none), (4, 5)), ((.mk Option.none (.store 4 (.tmp 2) (.tmp 101)) Option.none), (5, 7)), ((.mk (Option.some 3) (.mv (.tmp 105)) Option.none), (6, 7))]) .ret)))))))) 106
  [(.cell 2 4 Bool.true), (.tmp 3)])
def a50 : AFn :=
  (.mk (.seq (.region [(.mk (Option.some 4) (.mv (.const .nilIface)) Option.none)]) (.seq (.seq (.region [(.mk (Option.some 5) (.mv (.tmp 1)) Option.none), (.mk (Option.some 6) (.eq
  (.iface Bool.true) Bool.false (.tmp 5) (.const .nilIface)) Option.none)]) (.cond (.tmp 6) (.seq (.region [(.mk (Option.some 4) (.mv (.const .nilIface)) Option.none)]) .ret)
  .skip)) (.seq (.region [(.mk (Option.some 7) (.mv (.tmp 1)) Option.none), (.mk (Option.some 8) (.build [.nilIface] [(0, (1, (.tmp 7)))]) Option.none), (.mk (Option.some 9) (.mv
  (.tmp 0)) Option.none), (.mk (Option.some 10) (.build [.nilIface, (.int .i64 0)] [(0, (1, (.tmp 8))), (1, (1, (.tmp 9)))]) Option.none), (.mk (Option.some 11) (.box (.tmp 10))
  Option.none), (.mk (Option.some 12) (.mkIface 98 (.tmp 11)) Option.none), (.mk (Option.some 4) (.mv (.tmp 12)) Option.none)]) .ret))) 13 [(.tmp 4)])
def a51 : AFn :=
  (.mk (.seq (.region [(.mk (Option.some 2) (.mv (.const (.int .i64 0))) Option.none)]) (.seq (.region [(.mk (Option.some 3) (.alloc [(.ptr Option.none)]) Option.none)]) (.seq (.seq
  (.region [(.mk (Option.some 4) (.mv (.tmp 0)) Option.none), (.mk (Option.some 5) (.mkIface 103 (.tmp 3)) Option.none), (.mk (Option.some 6) (.call 55 [(.tmp 4), (.tmp 5)])
  Option.none)]) (.cond (.tmp 6) (.seq (.region [(.mk (Option.some 7) (.load 1 Bool.false (.tmp 3)) Option.none), (.mk (Option.some 8) (.nilCheck (.tmp 7)) Option.none), (.mk
  (Option.some 9) (.fieldAddr 1 (.tmp 8)) Option.none), (.mk (Option.some 10) (.load 1 Bool.false (.tmp 9)) Option.none), (.mk (Option.some 2) (.mv (.tmp 10)) Option.none)]) .ret)
  .skip)) (.seq (.region [(.mk (Option.some 2) (.mv (.const (.int .i64 (-1)))) Option.none)]) .ret)))) 11 [(.tmp 2)])
def a52 : AFn :=
  (.mk (.seq (.region [(.mk (Option.some 1) (.box (.tmp 0)) Option.none), (.mk (Option.some 2) (.mv (.const (.string (ByteArray.mk #[])))) Option.none)]) (.seq (.seq (.region [(.mk
  (Option.some 4) (.load 4 Bool.true (.tmp 1)) Option.none), (.mk (Option.some 5) (.call 13 [(.tmp 4)]) Option.none), (.mk (Option.some 6) (.un .not (.tmp 5)) Option.none)]) (.cond
  (.tmp 6) (.seq (.region [(.mk (Option.some 2) (.mv (.const (.string (ByteArray.mk #[63])))) Option.none)]) .ret) .skip)) (.seq (.draws [((.mk (Option.some 7) (.fieldAddr 0 (.tmp
  1)) Option.none), (0, 2)), ((.mk (Option.some 8) (.load 1 Bool.false (.tmp 7)) Option.none), (0, 2)), ((.mk (Option.some 9) (.call 64 [(.tmp 8)]) Option.none), (0, 8)), ((.mk
  (Option.some 10) (.bin .add (.tmp 9) (.const (.string (ByteArray.mk #[32])))) Option.none), (3, 8)), ((.mk (Option.some 11) (.fieldAddr 1 (.tmp 1)) Option.none), (0, 8)), ((.mk
  (Option.some 12) (.load 1 Bool.false (.tmp 11)) Option.none), (0, 8)), ((.mk (Option.some 13) (.bin .add (.tmp 10) (.tmp 12)) Option.none), (3, 8)), ((.mk (Option.some 3) (.mv
  (.tmp 13)) Option.none), (3, 8))]) (.seq (.seq (.region [(.mk (Option.some 14) (.fieldAddr 0 (.tmp 1)) Option.none), (.mk (Option.some 15) (.load 1 Bool.false (.tmp 14))
  Option.none)]) (.block 0 (.seq (.region [(.mk (Option.some 17) (.bin .eql (.tmp 15) (.const (.int .i64 5))) Option.none), (.mk (Option.some 16) (.mv (.tmp 17)) Option.none)])
  (.cond (.tmp 16) (.seq (.draws [((.mk (Option.some 18) (.mv (.tmp 3)) Option.none), (0, 12)), ((.mk (Option.some 19) (.bin .add (.tmp 18) (.const (.string (ByteArray.mk #[32]))))
  Option.none), (0, 12)), ((.mk (Option.some 20) (.fieldAddr 2 (.tmp 1)) Option.none), (0, 4)), ((.mk (Option.some 21) (.load 1 Bool.false (.tmp 20)) Option.none), (0, 4)), ((.mk
  (Option.some 22) (.call 68 [(.tmp 21), (.const (.int .i64 10))]) Option.none), (0, 9)), ((.mk (Option.some 23) (.bin .add (.tmp 19) (.tmp 22)) Option.none), (5, 12)), ((.mk
  (Option.some 24) (.bin .add (.tmp 23) (.const (.string (ByteArray.mk #[32])))) Option.none), (5, 12)), ((.mk (Option.some 25) (.fieldAddr 3 (.tmp 1)) Option.none), (0, 9)), ((.mk
  (Option.some 26) (.load 1 Bool.false (.tmp 25)) Option.none), (0, 9)), ((.mk (Option.some 27) (.call 68 [(.tmp 26), (.const (.int .i64 10))]) Option.none), (5, 12)), ((.mk
  (Option.some 28) (.bin .add (.tmp 24) (.tmp 27)) Option.none), (10, 12)), ((.mk (Option.some 2) (.mv (.tmp 28)) Option.none), (10, 12))]) .ret) (.seq (.seq (.region [(.mk
  (Option.some 30) (.bin .eql (.tmp 15) (.const (.int .i64 2))) Option.none), (.mk (Option.some 29) (.mv (.tmp 30)) Option.none)]) (.cond (.tmp 29) .skip (.seq (.region [(.mk
  (Option.some 31) (.bin .eql (.tmp 15) (.const (.int .i64 4))) Option.none), (.mk (Option.some 29) (.mv (.tmp 31)) Option.none)]) (.cond (.tmp 29) .skip (.region [(.mk
  (Option.some 32) (.bin .eql (.tmp 15) (.const (.int .i64 6))) Option.none), (.mk (Option.some 29) (.mv (.tmp 32)) Option.none)]))))) (.cond (.tmp 29) (.seq (.region [(.mk
  (Option.some 33) (.mv (.tmp 3)) Option.none), (.mk (Option.some 34) (.bin .add (.tmp 33) (.const (.string (ByteArray.mk #[32])))) Option.none), (.mk (Option.some 35) (.fieldAddr
  2 (.tmp 1)) Option.none), (.mk (Option.some 36) (.load 1 Bool.false (.tmp 35)) Option.none), (.mk (Option.some 37) (.call 68 [(.tmp 36), (.const (.int .i64 10))]) Option.none),
  (.mk (Option.some 38) (.bin .add (.tmp 34) (.tmp 37)) Option.none), (.mk (Option.some 2) (.mv (.tmp 38)) Option.none)]) .ret) .skip)))))) (.seq (.region [(.mk (Option.some 39)
  (.mv (.tmp 3)) Option.none), (.mk (Option.some 2) (.mv (.tmp 39)) Option.none)]) .ret))))) 40 [(.tmp 2)])
def a54 : AFn :=
  (.mk (.seq (.region [(.mk (Option.some 4) (.mv (.const (.bool Bool.false))) Option.none)]) (.seq (.region [(.mk (Option.some 5) (.mv (.tmp 0)) Option.none), (.mk (Option.some 6)
  (.mv (.tmp 1)) Option.none), (.mk (Option.some 7) (.call 72 [(.tmp 5), (.tmp 6)]) Option.none), (.mk (Option.some 4) (.mv (.tmp 7)) Option.none)]) .ret)) 8 [(.tmp 4)])
def a55 : AFn :=
  (.mk (.seq (.region [(.mk (Option.some 4) (.mv (.const (.bool Bool.false))) Option.none)]) (.seq (.seq (.region [(.mk (Option.some 8) (.mv (.tmp 0)) Option.none), (.mk (Option.some
  9) (.eq (.iface Bool.true) Bool.false (.tmp 8) (.const .nilIface)) Option.none)]) (.cond (.tmp 9) (.seq (.region [(.mk (Option.some 4) (.mv (.const (.bool Bool.false)))
  Option.none)]) .ret) .skip)) (.seq (.seq (.region [(.mk (Option.some 10) (.mv (.tmp 1)) Option.none), (.mk (Option.some 11) (.eq (.iface Bool.true) Bool.false (.tmp 10) (.const
  .nilIface)) Option.none)]) (.cond (.tmp 11) (.region [(.mk (Option.some 12) (.mkIface 9 (.const (.string (ByteArray.mk #[101, 114, 114, 111, 114, 115, 58, 32, 116, 97, 114, 103,
  101, 116, 32, 99, 97, 110, 110, 111, 116, 32, 98, 101, 32, 110, 105, 108])))) Option.none), (.mk Option.none (.extract (.const (.bool Bool.false)) 0) Option.none)]) .skip)) (.seq
  (.region [(.mk (Option.some 13) (.mv (.tmp 1)) Option.none), (.mk (Option.some 14) (.call 73 [(.tmp 13)]) Option.none), (.mk (Option.some 5) (.alloc [(.ptr Option.none), (.ptr
  Option.none), (.int .u64 0)]) Option.none), (.mk Option.none (.store 3 (.tmp 5) (.tmp 14)) Option.none)]) (.seq (.region [(.mk (Option.some 15) (.load 3 Bool.true (.tmp 5))
  Option.none), (.mk (Option.some 16) (.call 74 [(.tmp 15)]) Option.none), (.mk (Option.some 6) (.mv (.tmp 16)) Option.none)]) (.seq (.seq (.region [(.mk (Option.some 17) (.mv
  (.tmp 6)) Option.none), (.mk (Option.some 18) (.invoke (.tmp 17) [(17, (156, Option.none)), (115, (164, Option.none)), (147, (156, (Option.some (0, (0, Bool.false))))), (148,
  (156, (Option.some (0, (0, Bool.false)))))] []) Option.none), (.mk (Option.some 19) (.bin .neq (.tmp 18) (.const (.int .u8 22))) Option.none), (.mk (Option.some 20) (.mv (.tmp
  19)) Option.none), (.mk (Option.some 21) (.load 3 Bool.true (.tmp 5)) (Option.some (20, Bool.false))), (.mk (Option.some 22) (.call 75 [(.tmp 21)]) (Option.some (20,
  Bool.false))), (.mk (Option.some 23) (.pick (.tmp 20) (.const (.bool Bool.true)) (.tmp 22)) Option.none)]) (.cond (.tmp 23) (.region [(.mk (Option.some 24) (.mkIface 9 (.const
  (.string (ByteArray.mk #[101, 114, 114, 111, 114, 115, 58, 32, 116, 97, 114, 103, 101, 116, 32, 109, 117, 115, 116, 32, 98, 101, 32, 97, 32, 110, 111, 110, 45, 110, 105, 108, 32,
  112, 111, 105, 110, 116, 101, 114])))) Option.none), (.mk Option.none (.extract (.const (.bool Bool.false)) 0) Option.none)]) .skip)) (.seq (.region [(.mk (Option.some 25) (.mv
  (.tmp 6)) Option.none), (.mk (Option.some 26) (.invoke (.tmp 25) [(17, (155, Option.none)), (115, (97, Option.none)), (147, (155, (Option.some (0, (0, Bool.false))))), (148,
  (171, Option.none))] []) Option.none), (.mk (Option.some 7) (.mv (.tmp 26)) Option.none)]) (.seq (.seq (.region [(.mk (Option.some 27) (.mv (.tmp 7)) Option.none), (.mk
  (Option.some 28) (.invoke (.tmp 27) [(17, (156, Option.none)), (115, (164, Option.none)), (147, (156, (Option.some (0, (0, Bool.false))))), (148, (156, (Option.some (0, (0,
  Bool.false)))))] []) Option.none), (.mk (Option.some 29) (.bin .neq (.tmp 28) (.const (.int .u8 20))) Option.none), (.mk (Option.some 30) (.mv (.tmp 29)) Option.none), (.mk
  (Option.some 31) (.mv (.tmp 7)) (Option.some (30, Bool.true))), (.mk (Option.some 32) (.load 1 Bool.false (.global 0)) (Option.some (30, Bool.true))), (.mk (Option.some 33)
  (.invoke (.tmp 31) [(148, (172, Option.none))] [(.tmp 32)]) (Option.some (30, Bool.true))), (.mk (Option.some 34) (.un .not (.tmp 33)) (Option.some (30, Bool.true))), (.mk
  (Option.some 35) (.pick (.tmp 30) (.tmp 34) (.const (.bool Bool.false))) Option.none)]) (.cond (.tmp 35) (.region [(.mk (Option.some 36) (.mkIface 9 (.const (.string
  (ByteArray.mk #[101, 114, 114, 111, 114, 115, 58, 32, 42, 116, 97, 114, 103, 101, 116, 32, 109, 117, 115, 116, 32, 98, 101, 32, 105, 110, 116, 101, 114, 102, 97, 99, 101, 32,
  111, 114, 32, 105, 109, 112, 108, 101, 109, 101, 110, 116, 32, 101, 114, 114, 111, 114])))) Option.none), (.mk Option.none (.extract (.const (.bool Bool.false)) 0) Option.none)])
  .skip)) (.seq (.region [(.mk (Option.some 37) (.mv (.tmp 0)) Option.none), (.mk (Option.some 38) (.mv (.tmp 1)) Option.none), (.mk (Option.some 39) (.load 3 Bool.true (.tmp 5))
  Option.none), (.mk (Option.some 40) (.mv (.tmp 7)) Option.none), (.mk (Option.some 41) (.call 76 [(.tmp 37), (.tmp 38), (.tmp 39), (.tmp 40)]) Option.none), (.mk (Option.some 4)
  (.mv (.tmp 41)) Option.none)]) .ret))))))))) 42 [(.tmp 4)])
def a56 : AFn :=
  (.mk (.seq (.region [(.mk (Option.some 6) (.mv (.const .nilIface)) Option.none)]) (.seq (.seq (.region [(.mk (Option.some 7) (.mv (.tmp 2)) Option.none), (.mk (Option.some 8) (.eq
  (.iface Bool.true) Bool.false (.tmp 7) (.const .nilIface)) Option.none)]) (.cond (.tmp 8) (.seq (.region [(.mk (Option.some 6) (.mv (.const .nilIface)) Option.none)]) .ret)
  .skip)) (.seq (.region [(.mk (Option.some 9) (.mv (.tmp 2)) Option.none), (.mk (Option.some 10) (.build [.nilIface] [(0, (1, (.tmp 9)))]) Option.none), (.mk (Option.some 11) (.mv
  (.tmp 0)) Option.none), (.mk (Option.some 12) (.mv (.tmp 1)) Option.none), (.mk (Option.some 13) (.build [.nilIface, (.int .i64 0), (.int .i64 0)] [(0, (1, (.tmp 10))), (1, (1,
  (.tmp 11))), (2, (1, (.tmp 12)))]) Option.none), (.mk (Option.some 14) (.box (.tmp 13)) Option.none), (.mk (Option.some 15) (.mkIface 124 (.tmp 14)) Option.none), (.mk
  (Option.some 6) (.mv (.tmp 15)) Option.none)]) .ret))) 16 [(.tmp 6)])
def a57 : AFn :=
  (.mk (.seq (.region [(.mk (Option.some 2) (.mv (.const .nilIface)) Option.none)]) (.seq (.seq (.region [(.mk (Option.some 3) (.mv (.tmp 0)) Option.none), (.mk (Option.some 4) (.bin
  .eql (.tmp 3) (.const (.int .i64 0))) Option.none)]) (.cond (.tmp 4) (.seq (.region [(.mk (Option.some 2) (.mv (.const .nilIface)) Option.none)]) .ret) .skip)) (.seq (.region
  [(.mk (Option.some 5) (.mv (.tmp 0)) Option.none), (.mk (Option.some 6) (.build [(.int .i64 0)] [(0, (1, (.tmp 5)))]) Option.none), (.mk (Option.some 7) (.box (.tmp 6))
  Option.none), (.mk (Option.some 8) (.mkIface 77 (.tmp 7)) Option.none), (.mk (Option.some 2) (.mv (.tmp 8)) Option.none)]) .ret))) 9 [(.tmp 2)])
def a58 : AFn :=
  (.mk (.seq (.region [(.mk (Option.some 2) (.box (.tmp 0)) Option.none), (.mk (Option.some 3) (.mv (.const (.bool Bool.false))) Option.none)]) (.seq (.region [(.mk (Option.some 4)
  (.load 1 Bool.false (.tmp 1)) Option.none), (.mk (Option.some 5) (.fieldAddr 0 (.tmp 2)) Option.none), (.mk (Option.some 6) (.load 1 Bool.false (.tmp 5)) Option.none), (.mk
  (Option.some 7) (.call 59 [(.tmp 4), (.tmp 6)]) Option.none), (.mk (Option.some 8) (.un .not (.tmp 7)) Option.none), (.mk (Option.some 3) (.mv (.tmp 8)) Option.none)]) .ret)) 9
  [(.tmp 3)])
def a59 : AFn :=
  (.mk (.seq (.region [(.mk (Option.some 4) (.mv (.const (.bool Bool.false))) Option.none)]) (.seq (.region [(.mk (Option.some 5) (.mv (.tmp 0)) Option.none), (.mk (Option.some 6)
  (.mv (.tmp 1)) Option.none), (.mk (Option.some 7) (.call 77 [(.tmp 5), (.tmp 6)]) Option.none), (.mk (Option.some 8) (.bin .geq (.tmp 7) (.const (.int .i64 0))) Option.none),
  (.mk (Option.some 4) (.mv (.tmp 8)) Option.none)]) .ret)) 9 [(.tmp 4)])
def a60 : AFn :=
  (.mk (.seq (.region [(.mk (Option.some 4) (.mv (.const (.slice Option.none 0 0))) Option.none)]) (.seq (.seq (.region [(.mk (Option.some 5) (.mv (.tmp 1)) Option.none), (.mk
  (Option.some 6) (.bin .lss (.tmp 5) (.const (.int .i64 0))) Option.none)]) (.cond (.tmp 6) (.region [(.mk (Option.some 7) (.mkIface 9 (.const (.string (ByteArray.mk #[99, 97,
  110, 110, 111, 116, 32, 98, 101, 32, 110, 101, 103, 97, 116, 105, 118, 101])))) Option.none), (.mk Option.none (.extract (.const (.bool Bool.false)) 0) Option.none)]) .skip))
  (.seq (.seq (.region [(.mk (Option.some 8) (.mv (.tmp 1)) Option.none), (.mk (Option.some 9) (.mv (.tmp 0)) Option.none), (.mk (Option.some 10) (.cap (.tmp 9)) Option.none), (.mk
  (Option.some 11) (.mv (.tmp 0)) Option.none), (.mk (Option.some 12) (.len (.tmp 11)) Option.none), (.mk (Option.some 13) (.bin .sub (.tmp 10) (.tmp 12)) Option.none), (.mk
  (Option.some 14) (.bin .sub (.tmp 8) (.tmp 13)) Option.none), (.mk (Option.some 1) (.mv (.tmp 14)) Option.none)]) (.seq (.region [(.mk (Option.some 15) (.mv (.tmp 1))
  Option.none), (.mk (Option.some 16) (.bin .gtr (.tmp 15) (.const (.int .i64 0))) Option.none)]) (.cond (.tmp 16) (.region [(.mk (Option.some 17) (.mv (.tmp 0)) Option.none), (.mk
  (Option.some 18) (.mv (.tmp 0)) Option.none), (.mk (Option.some 19) (.cap (.tmp 18)) Option.none), (.mk (Option.some 20) (.cutSlice 4 (.tmp 17) Option.none (Option.some (.tmp
  19)) Option.none) Option.none), (.mk (Option.some 21) (.mv (.tmp 1)) Option.none), (.mk (Option.some 22) (.appendZ 4 40 [(.int .i64 0), (.str []), (.int .i64 0), (.int .i64 0)]
  (.tmp 20) (.tmp 21)) Option.none), (.mk (Option.some 23) (.mv (.tmp 0)) Option.none), (.mk (Option.some 24) (.len (.tmp 23)) Option.none), (.mk (Option.some 25) (.cutSlice 4
  (.tmp 22) Option.none (Option.some (.tmp 24)) Option.none) Option.none), (.mk (Option.some 0) (.mv (.tmp 25)) Option.none)]) .skip))) (.seq (.region [(.mk (Option.some 26) (.mv
  (.tmp 0)) Option.none), (.mk (Option.some 4) (.mv (.tmp 26)) Option.none)]) .ret)))) 27 [(.tmp 4)])
def a61 : AFn :=
  (.mk (.seq (.region [(.mk (Option.some 8) (.mv (.const (.bool Bool.true))) Option.none)]) (.seq (.region [(.mk (Option.some 9) (.mv (.const (.bool Bool.true))) Option.none)])
  (.block 0 (.loop (.block 1 (.seq (.region [(.mk (Option.some 19) (.mv (.tmp 2)) Option.none), (.mk (Option.some 20) (.mv (.tmp 1)) Option.none), (.mk (Option.some 21) (.bin .sub
  (.tmp 19) (.tmp 20)) Option.none), (.mk (Option.some 10) (.mv (.tmp 21)) Option.none)]) (.seq (.seq (.region [(.mk (Option.some 22) (.mv (.tmp 10)) Option.none), (.mk
  (Option.some 23) (.bin .leq (.tmp 22) (.const (.int .i64 12))) Option.none)]) (.cond (.tmp 23) (.seq (.region [(.mk (Option.some 24) (.mv (.tmp 0)) Option.none), (.mk
  (Option.some 25) (.mv (.tmp 1)) Option.none), (.mk (Option.some 26) (.mv (.tmp 2)) Option.none), (.mk (Option.some 27) (.call 78 [(.tmp 24), (.tmp 25), (.tmp 26)]) Option.none)])
  .ret) .skip)) (.seq (.seq (.region [(.mk (Option.some 28) (.mv (.tmp 3)) Option.none), (.mk (Option.some 29) (.bin .eql (.tmp 28) (.const (.int .i64 0))) Option.none)]) (.cond
  (.tmp 29) (.seq (.region [(.mk (Option.some 30) (.mv (.tmp 0)) Option.none), (.mk (Option.some 31) (.mv (.tmp 1)) Option.none), (.mk (Option.some 32) (.mv (.tmp 2)) Option.none),
  (.mk (Option.some 33) (.call 79 [(.tmp 30), (.tmp 31), (.tmp 32)]) Option.none)]) .ret) .skip)) (.seq (.seq (.region [(.mk (Option.some 34) (.mv (.tmp 8)) Option.none), (.mk
  (Option.some 35) (.un .not (.tmp 34)) Option.none)]) (.cond (.tmp 35) (.seq (.region [(.mk (Option.some 36) (.mv (.tmp 0)) Option.none), (.mk (Option.some 37) (.mv (.tmp 1))
  Option.none), (.mk (Option.some 38) (.mv (.tmp 2)) Option.none), (.mk (Option.some 39) (.call 80 [(.tmp 36), (.tmp 37), (.tmp 38)]) Option.none)]) (.region [(.mk (Option.some 40)
  (.mv (.tmp 3)) Option.none), (.mk (Option.some 41) (.bin .sub (.tmp 40) (.const (.int .i64 1))) Option.none), (.mk (Option.some 3) (.mv (.tmp 41)) Option.none)])) .skip)) (.seq
  (.region [(.mk (Option.some 43) (.mv (.tmp 0)) Option.none), (.mk (Option.some 44) (.mv (.tmp 1)) Option.none), (.mk (Option.some 45) (.mv (.tmp 2)) Option.none), (.mk
  (Option.some 46) (.call 81 [(.tmp 43), (.tmp 44), (.tmp 45)]) Option.none), (.mk (Option.some 42) (.mv (.tmp 46)) Option.none), (.mk (Option.some 47) (.extract (.tmp 42) 0)
  Option.none), (.mk (Option.some 48) (.extract (.tmp 42) 1) Option.none), (.mk (Option.some 11) (.mv (.tmp 47)) Option.none), (.mk (Option.some 12) (.mv (.tmp 48)) Option.none)])
  (.seq (.seq (.region [(.mk (Option.some 49) (.mv (.tmp 12)) Option.none), (.mk (Option.some 50) (.bin .eql (.tmp 49) (.const (.int .i64 2))) Option.none)]) (.cond (.tmp 50) (.seq
  (.region [(.mk (Option.some 51) (.mv (.tmp 0)) Option.none), (.mk (Option.some 52) (.mv (.tmp 1)) Option.none), (.mk (Option.some 53) (.mv (.tmp 2)) Option.none), (.mk
  (Option.some 54) (.call 82 [(.tmp 51), (.tmp 52), (.tmp 53)]) Option.none)]) (.seq (.region [(.mk (Option.some 55) (.mv (.tmp 2)) Option.none), (.mk (Option.some 56) (.bin .sub
  (.tmp 55) (.const (.int .i64 1))) Option.none), (.mk (Option.some 57) (.mv (.tmp 11)) Option.none), (.mk (Option.some 58) (.mv (.tmp 1)) Option.none), (.mk (Option.some 59) (.bin
  .sub (.tmp 57) (.tmp 58)) Option.none), (.mk (Option.some 60) (.bin .sub (.tmp 56) (.tmp 59)) Option.none), (.mk (Option.some 11) (.mv (.tmp 60)) Option.none)]) (.region [(.mk
  (Option.some 12) (.mv (.const (.int .i64 1))) Option.none)]))) .skip)) (.seq (.seq (.region [(.mk (Option.some 61) (.mv (.tmp 8)) Option.none), (.mk (Option.some 62) (.mv (.tmp
  61)) Option.none), (.mk (Option.some 63) (.mv (.tmp 9)) (Option.some (62, Bool.true))), (.mk (Option.some 64) (.pick (.tmp 62) (.tmp 63) (.const (.bool Bool.false)))
  Option.none), (.mk (Option.some 65) (.mv (.tmp 64)) Option.none), (.mk (Option.some 66) (.mv (.tmp 12)) (Option.some (65, Bool.true))), (.mk (Option.some 67) (.bin .eql (.tmp 66)
  (.const (.int .i64 1))) (Option.some (65, Bool.true))), (.mk (Option.some 68) (.pick (.tmp 65) (.tmp 67) (.const (.bool Bool.false))) Option.none)]) (.cond (.tmp 68) (.seq
  (.region [(.mk (Option.some 69) (.mv (.tmp 0)) Option.none), (.mk (Option.some 70) (.mv (.tmp 1)) Option.none), (.mk (Option.some 71) (.mv (.tmp 2)) Option.none), (.mk
  (Option.some 72) (.call 83 [(.tmp 69), (.tmp 70), (.tmp 71)]) Option.none)]) (.cond (.tmp 72) .ret .skip)) .skip)) (.seq (.seq (.draws [((.mk (Option.some 73) (.mv (.tmp 1))
  Option.none), (0, 12)), ((.mk (Option.some 74) (.bin .gtr (.tmp 73) (.const (.int .i64 0))) Option.none), (0, 12)), ((.mk (Option.some 75) (.mv (.tmp 74)) Option.none), (0, 12)),
  ((.mk (Option.some 76) (.mv (.tmp 0)) (Option.some (75, Bool.true))), (0, 12)), ((.mk (Option.some 77) (.mv (.tmp 1)) (Option.some (75, Bool.true))), (0, 12)), ((.mk (Option.some
  78) (.bin .sub (.tmp 77) (.const (.int .i64 1))) (Option.some (75, Bool.true))), (0, 12)), ((.mk (Option.some 79) (.atSlice 1 (.tmp 76) (.tmp 78)) (Option.some (75, Bool.true))),
  (0, 12)), ((.mk (Option.some 80) (.load 1 Bool.false (.tmp 79)) (Option.some (75, Bool.true))), (0, 12)), ((.mk (Option.some 81) (.mv (.tmp 0)) (Option.some (75, Bool.true))),
  (0, 12)), ((.mk (Option.some 82) (.mv (.tmp 11)) (Option.some (75, Bool.true))), (0, 12)), ((.mk (Option.some 83) (.atSlice 1 (.tmp 81) (.tmp 82)) (Option.some (75, Bool.true))),
  (0, 12)), ((.mk (Option.some 84) (.load 1 Bool.false (.tmp 83)) (Option.some (75, Bool.true))), (0, 12)), ((.mk (Option.some 85) (.call 84 [(.tmp 80), (.tmp 84)]) (Option.some
  (75, Bool.true))), (0, 15)), ((.mk (Option.some 86) (.un .not (.tmp 85)) (Option.some (75, Bool.true))), (13, 15)), ((.mk (Option.some 87) (.pick (.tmp 75) (.tmp 86) (.const
  (.bool Bool.false))) Option.none), (13, 15))]) (.cond (.tmp 87) (.seq (.region [(.mk (Option.some 88) (.mv (.tmp 0)) Option.none), (.mk (Option.some 89) (.mv (.tmp 1))
  Option.none), (.mk (Option.some 90) (.mv (.tmp 2)) Option.none), (.mk (Option.some 91) (.mv (.tmp 11)) Option.none), (.mk (Option.some 92) (.call 85 [(.tmp 88), (.tmp 89), (.tmp
  90), (.tmp 91)]) Option.none), (.mk (Option.some 13) (.mv (.tmp 92)) Option.none)]) (.seq (.region [(.mk (Option.some 93) (.mv (.tmp 13)) Option.none), (.mk (Option.some 1) (.mv
  (.tmp 93)) Option.none)]) (.exit 1))) .skip)) (.seq (.region [(.mk (Option.some 95) (.mv (.tmp 0)) Option.none), (.mk (Option.some 96) (.mv (.tmp 1)) Option.none), (.mk
  (Option.some 97) (.mv (.tmp 2)) Option.none), (.mk (Option.some 98) (.mv (.tmp 11)) Option.none), (.mk (Option.some 99) (.call 86 [(.tmp 95), (.tmp 96), (.tmp 97), (.tmp 98)])
  Option.none), (.mk (Option.some 94) (.mv (.tmp 99)) Option.none), (.mk (Option.some 100) (.extract (.tmp 94) 0) Option.none), (.mk (Option.some 101) (.extract (.tmp 94) 1)
  Option.none), (.mk (Option.some 14) (.mv (.tmp 100)) Option.none), (.mk (Option.some 15) (.mv (.tmp 101)) Option.none)]) (.seq (.region [(.mk (Option.some 102) (.mv (.tmp 15))
  Option.none), (.mk (Option.some 9) (.mv (.tmp 102)) Option.none)]) (.seq (.region [(.mk (Option.some 103) (.mv (.tmp 14)) Option.none), (.mk (Option.some 104) (.mv (.tmp 1))
  Option.none), (.mk (Option.some 105) (.bin .sub (.tmp 103) (.tmp 104)) Option.none), (.mk (Option.some 106) (.mv (.tmp 2)) Option.none), (.mk (Option.some 107) (.mv (.tmp 14))
  Option.none), (.mk (Option.some 108) (.bin .sub (.tmp 106) (.tmp 107)) Option.none), (.mk (Option.some 16) (.mv (.tmp 105)) Option.none), (.mk (Option.some 17) (.mv (.tmp 108))
  Option.none)]) (.seq (.region [(.mk (Option.some 109) (.mv (.tmp 10)) Option.none), (.mk (Option.some 110) (.bin .quo (.tmp 109) (.const (.int .i64 8))) Option.none), (.mk
  (Option.some 18) (.mv (.tmp 110)) Option.none)]) (.seq (.region [(.mk (Option.some 111) (.mv (.tmp 16)) Option.none), (.mk (Option.some 112) (.mv (.tmp 17)) Option.none), (.mk
  (Option.some 113) (.bin .lss (.tmp 111) (.tmp 112)) Option.none)]) (.cond (.tmp 113) (.seq (.region [(.mk (Option.some 114) (.mv (.tmp 16)) Option.none), (.mk (Option.some 115)
  (.mv (.tmp 18)) Option.none), (.mk (Option.some 116) (.bin .geq (.tmp 114) (.tmp 115)) Option.none), (.mk (Option.some 8) (.mv (.tmp 116)) Option.none)]) (.seq (.region [(.mk
  (Option.some 117) (.mv (.tmp 0)) Option.none), (.mk (Option.some 118) (.mv (.tmp 1)) Option.none), (.mk (Option.some 119) (.mv (.tmp 14)) Option.none), (.mk (Option.some 120)
  (.mv (.tmp 3)) Option.none), (.mk (Option.some 121) (.call 61 [(.tmp 117), (.tmp 118), (.tmp 119), (.tmp 120)]) Option.none)]) (.region [(.mk (Option.some 122) (.mv (.tmp 14))
  Option.none), (.mk (Option.some 123) (.bin .add (.tmp 122) (.const (.int .i64 1))) Option.none), (.mk (Option.some 1) (.mv (.tmp 123)) Option.none)]))) (.seq (.region [(.mk
  (Option.some 124) (.mv (.tmp 17)) Option.none), (.mk (Option.some 125) (.mv (.tmp 18)) Option.none), (.mk (Option.some 126) (.bin .geq (.tmp 124) (.tmp 125)) Option.none), (.mk
  (Option.some 8) (.mv (.tmp 126)) Option.none)]) (.seq (.region [(.mk (Option.some 127) (.mv (.tmp 0)) Option.none), (.mk (Option.some 128) (.mv (.tmp 14)) Option.none), (.mk
  (Option.some 129) (.bin .add (.tmp 128) (.const (.int .i64 1))) Option.none), (.mk (Option.some 130) (.mv (.tmp 2)) Option.none), (.mk (Option.some 131) (.mv (.tmp 3))
  Option.none), (.mk (Option.some 132) (.call 61 [(.tmp 127), (.tmp 129), (.tmp 130), (.tmp 131)]) Option.none)]) (.region [(.mk (Option.some 133) (.mv (.tmp 14)) Option.none),
  (.mk (Option.some 2) (.mv (.tmp 133)) Option.none)])))))))))))))))))))))) 134 [])
def a62 : AFn :=
  (.mk (.seq (.region [(.mk (Option.some 2) (.mv (.const (.int .i64 0))) Option.none)]) (.seq (.cond (.const (.bool Bool.false)) (.seq (.region [(.mk (Option.some 3) (.mv (.tmp 0))
  Option.none), (.mk (Option.some 4) (.conv .u32 (.tmp 3)) Option.none), (.mk (Option.some 5) (.call 87 [(.tmp 4)]) Option.none), (.mk (Option.some 2) (.mv (.tmp 5)) Option.none)])
  .ret) .skip) (.seq (.region [(.mk (Option.some 6) (.mv (.tmp 0)) Option.none), (.mk (Option.some 7) (.call 88 [(.tmp 6)]) Option.none), (.mk (Option.some 2) (.mv (.tmp 7))
  Option.none)]) .ret))) 8 [(.tmp 2)])
def a63 : AFn :=
  (.mk (.seq (.region [(.mk (Option.some 8) (.mv (.const (.slice Option.none 0 0))) Option.none)]) (.seq (.seq (.region [(.mk (Option.some 12) (.mv (.tmp 3)) Option.none), (.mk
  (Option.some 13) (.bin .eql (.tmp 12) (.const (.int .i64 0))) Option.none)]) (.cond (.tmp 13) (.seq (.region [(.mk (Option.some 8) (.mv (.const (.slice Option.none 0 0)))
  Option.none)]) .ret) .skip)) (.seq (.seq (.region [(.mk (Option.some 14) (.mv (.tmp 1)) Option.none), (.mk (Option.some 15) (.bin .eql (.tmp 14) (.const (.string (ByteArray.mk
  #[])))) Option.none)]) (.cond (.tmp 15) (.seq (.region [(.mk (Option.some 16) (.mv (.tmp 0)) Option.none), (.mk (Option.some 17) (.mv (.tmp 3)) Option.none), (.mk (Option.some
  18) (.call 89 [(.tmp 16), (.tmp 17)]) Option.none), (.mk (Option.some 8) (.mv (.tmp 18)) Option.none)]) .ret) .skip)) (.seq (.seq (.region [(.mk (Option.some 19) (.mv (.tmp 3))
  Option.none), (.mk (Option.some 20) (.bin .lss (.tmp 19) (.const (.int .i64 0))) Option.none)]) (.cond (.tmp 20) (.region [(.mk (Option.some 21) (.mv (.tmp 0)) Option.none), (.mk
  (Option.some 22) (.mv (.tmp 1)) Option.none), (.mk (Option.some 23) (.call 90 [(.tmp 21), (.tmp 22)]) Option.none), (.mk (Option.some 24) (.bin .add (.tmp 23) (.const (.int .i64
  1))) Option.none), (.mk (Option.some 3) (.mv (.tmp 24)) Option.none)]) .skip)) (.seq (.region [(.mk (Option.some 25) (.mv (.tmp 3)) Option.none), (.mk (Option.some 26) (.mv (.tmp
  0)) Option.none), (.mk (Option.some 27) (.lenStr (.tmp 26)) Option.none), (.mk (Option.some 28) (.bin .add (.tmp 27) (.const (.int .i64 1))) Option.none), (.mk (Option.some 29)
  (.minmax Bool.false [(.tmp 25), (.tmp 28)]) Option.none), (.mk (Option.some 3) (.mv (.tmp 29)) Option.none)]) (.seq (.region [(.mk (Option.some 30) (.mv (.tmp 3)) Option.none),
  (.mk (Option.some 31) (.makeSlice 1 16 [(.str [])] (.tmp 30) (.tmp 30)) Option.none), (.mk (Option.some 9) (.mv (.tmp 31)) Option.none)]) (.seq (.region [(.mk (Option.some 32)
  (.mv (.tmp 3)) Option.none), (.mk (Option.some 33) (.bin .sub (.tmp 32) (.const (.int .i64 1))) Option.none), (.mk (Option.some 3) (.mv (.tmp 33)) Option.none)]) (.seq (.region
  [(.mk (Option.some 10) (.mv (.const (.int .i64 0))) Option.none)]) (.seq (.block 0 (.loop (.seq (.seq (.region [(.mk (Option.some 34) (.mv (.tmp 10)) Option.none), (.mk
  (Option.some 35) (.mv (.tmp 3)) Option.none), (.mk (Option.some 36) (.bin .lss (.tmp 34) (.tmp 35)) Option.none)]) (.cond (.tmp 36) .skip (.exit 0))) (.block 1 (.seq (.region
  [(.mk (Option.some 37) (.mv (.tmp 0)) Option.none), (.mk (Option.some 38) (.mv (.tmp 1)) Option.none), (.mk (Option.some 39) (.call 91 [(.tmp 37), (.tmp 38)]) Option.none), (.mk
  (Option.some 11) (.mv (.tmp 39)) Option.none)]) (.seq (.seq (.region [(.mk (Option.some 40) (.mv (.tmp 11)) Option.none), (.mk (Option.some 41) (.bin .lss (.tmp 40) (.const (.int
  .i64 0))) Option.none)]) (.cond (.tmp 41) (.exit 0) .skip)) (.seq (.region [(.mk (Option.some 42) (.mv (.tmp 9)) Option.none), (.mk (Option.some 43) (.mv (.tmp 10)) Option.none),
  (.mk (Option.some 44) (.mv (.tmp 0)) Option.none), (.mk (Option.some 45) (.mv (.tmp 11)) Option.none), (.mk (Option.some 46) (.mv (.tmp 2)) Option.none), (.mk (Option.some 47)
  (.bin .add (.tmp 45) (.tmp 46)) Option.none), (.mk (Option.some 48) (.cutStr (.tmp 44) Option.none (Option.some (.tmp 47))) Option.none), (.mk (Option.some 49) (.atSlice 1 (.tmp
  42) (.tmp 43)) Option.none), (.mk Option.none (.store 1 (.tmp 49) (.tmp 48)) Option.none)]) (.seq (.region [(.mk (Option.some 50) (.mv (.tmp 0)) Option.none), (.mk (Option.some
  51) (.mv (.tmp 11)) Option.none), (.mk (Option.some 52) (.mv (.tmp 1)) Option.none), (.mk (Option.some 53) (.lenStr (.tmp 52)) Option.none), (.mk (Option.some 54) (.bin .add
  (.tmp 51) (.tmp 53)) Option.none), (.mk (Option.some 55) (.cutStr (.tmp 50) (Option.some (.tmp 54)) Option.none) Option.none), (.mk (Option.some 0) (.mv (.tmp 55)) Option.none)])
  (.region [(.mk (Option.some 56) (.mv (.tmp 10)) Option.none), (.mk (Option.some 57) (.bin .add (.tmp 56) (.const (.int .i64 1))) Option.none), (.mk (Option.some 10) (.mv (.tmp
  57)) Option.none)]))))))))) (.seq (.region [(.mk (Option.some 58) (.mv (.tmp 9)) Option.none), (.mk (Option.some 59) (.mv (.tmp 10)) Option.none), (.mk (Option.some 60) (.mv
  (.tmp 0)) Option.none), (.mk (Option.some 61) (.atSlice 1 (.tmp 58) (.tmp 59)) Option.none), (.mk Option.none (.store 1 (.tmp 61) (.tmp 60)) Option.none)]) (.seq (.region [(.mk
  (Option.some 62) (.mv (.tmp 9)) Option.none), (.mk (Option.some 63) (.mv (.tmp 10)) Option.none), (.mk (Option.some 64) (.bin .add (.tmp 63) (.const (.int .i64 1))) Option.none),
  (.mk (Option.some 65) (.cutSlice 1 (.tmp 62) Option.none (Option.some (.tmp 64)) Option.none) Option.none), (.mk (Option.some 8) (.mv (.tmp 65)) Option.none)]) .ret))))))))))) 66
  [(.tmp 8)])
def a64 : AFn :=
  (.mk (.seq (.region [(.mk (Option.some 2) (.mv (.const (.string (ByteArray.mk #[])))) Option.none)]) (.seq (.seq (.region [(.mk (Option.some 3) (.mv (.tmp 0)) Option.none)])
  (.block 0 (.seq (.region [(.mk (Option.some 5) (.bin .eql (.tmp 3) (.const (.int .i64 1))) Option.none), (.mk (Option.some 4) (.mv (.tmp 5)) Option.none)]) (.cond (.tmp 4) (.seq
  (.region [(.mk (Option.some 2) (.mv (.const (.string (ByteArray.mk #[103, 101, 116])))) Option.none)]) .ret) (.seq (.region [(.mk (Option.some 7) (.bin .eql (.tmp 3) (.const
  (.int .i64 2))) Option.none), (.mk (Option.some 6) (.mv (.tmp 7)) Option.none)]) (.cond (.tmp 6) (.seq (.region [(.mk (Option.some 2) (.mv (.const (.string (ByteArray.mk #[112,
  117, 116])))) Option.none)]) .ret) (.seq (.region [(.mk (Option.some 9) (.bin .eql (.tmp 3) (.const (.int .i64 3))) Option.none), (.mk (Option.some 8) (.mv (.tmp 9))
  Option.none)]) (.cond (.tmp 8) (.seq (.region [(.mk (Option.some 2) (.mv (.const (.string (ByteArray.mk #[100, 101, 108])))) Option.none)]) .ret) (.seq (.region [(.mk
  (Option.some 11) (.bin .eql (.tmp 3) (.const (.int .i64 4))) Option.none), (.mk (Option.some 10) (.mv (.tmp 11)) Option.none)]) (.cond (.tmp 10) (.seq (.region [(.mk (Option.some
  2) (.mv (.const (.string (ByteArray.mk #[97, 100, 100])))) Option.none)]) .ret) (.seq (.region [(.mk (Option.some 13) (.bin .eql (.tmp 3) (.const (.int .i64 5))) Option.none),
  (.mk (Option.some 12) (.mv (.tmp 13)) Option.none)]) (.cond (.tmp 12) (.seq (.region [(.mk (Option.some 2) (.mv (.const (.string (ByteArray.mk #[109, 105, 110])))) Option.none)])
  .ret) (.seq (.region [(.mk (Option.some 15) (.bin .eql (.tmp 3) (.const (.int .i64 6))) Option.none), (.mk (Option.some 14) (.mv (.tmp 15)) Option.none)]) (.cond (.tmp 14) (.seq
  (.region [(.mk (Option.some 2) (.mv (.const (.string (ByteArray.mk #[98, 97, 99, 107])))) Option.none)]) .ret) .skip)))))))))))))) (.seq (.region [(.mk (Option.some 2) (.mv
  (.const (.string (ByteArray.mk #[])))) Option.none)]) .ret))) 16 [(.tmp 2)])
def a65 : AFn :=
  (.mk (.seq (.region [(.mk (Option.some 2) (.mv (.const (.int .i64 0))) Option.none), (.mk (Option.some 3) (.mv (.const .nilIface)) Option.none)]) (.seq (.region [(.mk (Option.some
  7) (.mv (.tmp 0)) Option.none), (.mk (Option.some 8) (.call 92 [(.tmp 7), (.const (.int .i64 10)), (.const (.int .i64 64))]) Option.none), (.mk (Option.some 6) (.mv (.tmp 8))
  Option.none), (.mk (Option.some 9) (.extract (.tmp 6) 0) Option.none), (.mk (Option.some 10) (.extract (.tmp 6) 1) Option.none), (.mk (Option.some 4) (.mv (.tmp 9)) Option.none),
  (.mk (Option.some 5) (.mv (.tmp 10)) Option.none)]) (.seq (.seq (.region [(.mk (Option.some 11) (.mv (.tmp 5)) Option.none), (.mk (Option.some 12) (.eq (.iface Bool.true)
  Bool.true (.tmp 11) (.const .nilIface)) Option.none), (.mk (Option.some 13) (.mv (.tmp 12)) Option.none), (.mk (Option.some 14) (.mv (.tmp 4)) (Option.some (13, Bool.false))),
  (.mk (Option.some 15) (.call 68 [(.tmp 14), (.const (.int .i64 10))]) (Option.some (13, Bool.false))), (.mk (Option.some 16) (.mv (.tmp 0)) (Option.some (13, Bool.false))), (.mk
  (Option.some 17) (.bin .neq (.tmp 15) (.tmp 16)) (Option.some (13, Bool.false))), (.mk (Option.some 18) (.pick (.tmp 13) (.const (.bool Bool.true)) (.tmp 17)) Option.none)])
  (.cond (.tmp 18) (.seq (.region [(.mk (Option.some 19) (.mv (.tmp 0)) Option.none), (.mk (Option.some 20) (.call 57 [(.const (.int .i64 6))]) Option.none), (.mk (Option.some 21)
  (.call 66 [(.tmp 19), (.tmp 20)]) Option.none), (.mk (Option.some 2) (.mv (.const (.int .i64 0))) Option.none), (.mk (Option.some 3) (.mv (.tmp 21)) Option.none)]) .ret) .skip))
  (.seq (.region [(.mk (Option.some 22) (.mv (.tmp 4)) Option.none), (.mk (Option.some 2) (.mv (.tmp 22)) Option.none), (.mk (Option.some 3) (.mv (.const .nilIface)) Option.none)])
  .ret)))) 23 [(.tmp 2), (.tmp 3)])
def a66 : AFn :=
  (.mk (.seq (.region [(.mk (Option.some 4) (.mv (.const .nilIface)) Option.none)]) (.seq (.seq (.region [(.mk (Option.some 5) (.mv (.tmp 1)) Option.none), (.mk (Option.some 6) (.eq
  (.iface Bool.true) Bool.false (.tmp 5) (.const .nilIface)) Option.none)]) (.cond (.tmp 6) (.seq (.region [(.mk (Option.some 4) (.mv (.const .nilIface)) Option.none)]) .ret)
  .skip)) (.seq (.region [(.mk (Option.some 7) (.mv (.tmp 1)) Option.none), (.mk (Option.some 8) (.build [.nilIface] [(0, (1, (.tmp 7)))]) Option.none), (.mk (Option.some 9) (.mv
  (.tmp 0)) Option.none), (.mk (Option.some 10) (.build [.nilIface, (.str [])] [(0, (1, (.tmp 8))), (1, (1, (.tmp 9)))]) Option.none), (.mk (Option.some 11) (.box (.tmp 10))
  Option.none), (.mk (Option.some 12) (.mkIface 142 (.tmp 11)) Option.none), (.mk (Option.some 4) (.mv (.tmp 12)) Option.none)]) .ret))) 13 [(.tmp 4)])
def a67 : AFn :=
  (.mk (.seq (.region [(.mk (Option.some 2) (.mv (.const .nilIface)) Option.none)]) (.seq (.seq (.region [(.mk (Option.some 5) (.mv (.tmp 0)) Option.none), (.mk (Option.some 6) (.len
  (.tmp 5)) Option.none), (.mk (Option.some 7) (.mv (.const (.int .i64 0))) Option.none)]) (.block 0 (.loop (.seq (.region [(.mk (Option.some 8) (.bin .lss (.tmp 7) (.tmp 6))
  Option.none)]) (.seq (.cond (.tmp 8) .skip (.exit 0)) (.seq (.block 1 (.seq (.region [(.mk (Option.some 9) (.atSlice 1 (.tmp 5) (.tmp 7)) Option.none), (.mk (Option.some 10)
  (.load 1 Bool.false (.tmp 9)) Option.none), (.mk (Option.some 4) (.mv (.tmp 10)) Option.none)]) (.seq (.region [(.mk (Option.some 11) (.mv (.tmp 4)) Option.none), (.mk
  (Option.some 12) (.eq (.iface Bool.true) Bool.true (.tmp 11) (.const .nilIface)) Option.none)]) (.cond (.tmp 12) (.seq (.region [(.mk (Option.some 13) (.mv (.tmp 4))
  Option.none), (.mk (Option.some 2) (.mv (.tmp 13)) Option.none)]) .ret) .skip)))) (.region [(.mk (Option.some 14) (.bin .add (.tmp 7) (.const (.int .i64 1))) Option.none), (.mk
  (Option.some 7) (.mv (.tmp 14)) Option.none)]))))))) (.seq (.region [(.mk (Option.some 2) (.mv (.const .nilIface)) Option.none)]) .ret))) 15 [(.tmp 2)])
def a68 : AFn :=
  (.mk (.seq (.region [(.mk (Option.some 4) (.mv (.const (.string (ByteArray.mk #[])))) Option.none)]) (.seq (.region [(.mk (Option.some 5) (.mv (.tmp 0)) Option.none), (.mk
  (Option.some 6) (.mv (.tmp 1)) Option.none), (.mk (Option.some 7) (.call 93 [(.tmp 5), (.tmp 6)]) Option.none), (.mk (Option.some 4) (.mv (.tmp 7)) Option.none)]) .ret)) 8 [(.tmp
  4)])
def a72 : AFn :=
  (.mk (.seq (.region [(.mk (Option.some 4) (.mv (.const (.bool Bool.false))) Option.none)]) (.seq (.region [(.mk (Option.some 5) (.mv (.tmp 0)) Option.none), (.mk (Option.some 6)
  (.lenStr (.tmp 5)) Option.none), (.mk (Option.some 7) (.mv (.tmp 1)) Option.none), (.mk (Option.some 8) (.lenStr (.tmp 7)) Option.none), (.mk (Option.some 9) (.bin .geq (.tmp 6)
  (.tmp 8)) Option.none), (.mk (Option.some 10) (.mv (.tmp 9)) Option.none), (.mk (Option.some 11) (.mv (.tmp 0)) (Option.some (10, Bool.true))), (.mk (Option.some 12) (.mv (.tmp
  1)) (Option.some (10, Bool.true))), (.mk (Option.some 13) (.lenStr (.tmp 12)) (Option.some (10, Bool.true))), (.mk (Option.some 14) (.cutStr (.tmp 11) Option.none (Option.some
  (.tmp 13))) (Option.some (10, Bool.true))), (.mk (Option.some 15) (.mv (.tmp 1)) (Option.some (10, Bool.true))), (.mk (Option.some 16) (.bin .eql (.tmp 14) (.tmp 15))
  (Option.some (10, Bool.true))), (.mk (Option.some 17) (.pick (.tmp 10) (.tmp 16) (.const (.bool Bool.false))) Option.none), (.mk (Option.some 4) (.mv (.tmp 17)) Option.none)])
  .ret)) 18 [(.tmp 4)])
def a76 : AFn :=
  (.mk (.seq (.region [(.mk (Option.some 6) (.box (.tmp 2)) Option.none), (.mk (Option.some 8) (.mv (.const (.bool Bool.false))) Option.none)]) (.block 0 (.loop (.block 1 (.seq (.seq
  (.region [(.mk (Option.some 16) (.mv (.tmp 0)) Option.none), (.mk (Option.some 17) (.call 96 [(.tmp 16)]) Option.none), (.mk (Option.some 18) (.mv (.tmp 3)) Option.none), (.mk
  (Option.some 19) (.invoke (.tmp 17) [(148, (169, Option.none))] [(.tmp 18)]) Option.none)]) (.cond (.tmp 19) (.seq (.region [(.mk (Option.some 20) (.load 3 Bool.true (.tmp 6))
  Option.none), (.mk (Option.some 21) (.call 97 [(.tmp 20)]) Option.none), (.mk (Option.some 22) (.mv (.tmp 0)) Option.none), (.mk (Option.some 23) (.call 73 [(.tmp 22)])
  Option.none), (.mk (Option.some 24) (.call 98 [(.tmp 21), (.tmp 23)]) Option.none)]) (.seq (.region [(.mk (Option.some 8) (.mv (.const (.bool Bool.true))) Option.none)]) .ret))
  .skip)) (.seq (.seq (.region [(.mk (Option.some 26) (.mv (.tmp 0)) Option.none), (.mk (Option.some 27) (.isIface [] [8, 10, 11, 14, 15, 16, 17, 19, 77, 98, 100, 101, 102, 105,
  113, 114, 115, 120, 124, 125, 126, 142, 143, 144, 147, 148, 149, 177, 181, 184, 202, 224] Bool.true (.tmp 26)) Option.none), (.mk (Option.some 25) (.mv (.tmp 27)) Option.none),
  (.mk (Option.some 28) (.extract (.tmp 25) 0) Option.none), (.mk (Option.some 29) (.extract (.tmp 25) 1) Option.none), (.mk (Option.some 9) (.mv (.tmp 28)) Option.none), (.mk
  (Option.some 10) (.mv (.tmp 29)) Option.none)]) (.seq (.region [(.mk (Option.some 30) (.mv (.tmp 10)) Option.none), (.mk (Option.some 31) (.mv (.tmp 30)) Option.none), (.mk
  (Option.some 32) (.mv (.tmp 9)) (Option.some (31, Bool.true))), (.mk (Option.some 33) (.mv (.tmp 1)) (Option.some (31, Bool.true))), (.mk (Option.some 34) (.invoke (.tmp 32) []
  [(.tmp 33)]) (Option.some (31, Bool.true))), (.mk (Option.some 35) (.pick (.tmp 31) (.tmp 34) (.const (.bool Bool.false))) Option.none)]) (.cond (.tmp 35) (.seq (.region [(.mk
  (Option.some 8) (.mv (.const (.bool Bool.true))) Option.none)]) .ret) .skip))) (.seq (.region [(.mk (Option.some 36) (.mv (.tmp 0)) Option.none)]) (.block 2 (.seq (.region [(.mk
  (Option.some 37) (.isIface [98, 100, 101, 102, 124, 125, 126, 142, 143, 144, 184] [8, 10, 11, 14, 15, 16, 17, 19, 77, 105, 113, 114, 115, 120, 147, 148, 149, 177, 181, 202, 224]
  Bool.true (.tmp 36)) Option.none), (.mk (Option.some 38) (.extract (.tmp 37) 1) Option.none), (.mk (Option.some 39) (.extract (.tmp 37) 0) Option.none)]) (.cond (.tmp 38) (.seq
  (.region [(.mk (Option.some 11) (.mv (.tmp 39)) Option.none)]) (.seq (.region [(.mk (Option.some 40) (.mv (.tmp 11)) Option.none), (.mk (Option.some 41) (.invoke (.tmp 40) [(98,
  (161, (Option.some (0, (1, Bool.true))))), (100, (161, Option.none)), (124, (161, (Option.some (0, (1, Bool.true))))), (142, (161, (Option.some (0, (1, Bool.true))))), (184,
  (181, Option.none))] []) Option.none), (.mk (Option.some 0) (.mv (.tmp 41)) Option.none)]) (.seq (.region [(.mk (Option.some 42) (.mv (.tmp 0)) Option.none), (.mk (Option.some
  43) (.eq (.iface Bool.true) Bool.false (.tmp 42) (.const .nilIface)) Option.none)]) (.cond (.tmp 43) (.seq (.region [(.mk (Option.some 8) (.mv (.const (.bool Bool.false)))
  Option.none)]) .ret) .skip)))) (.seq (.region [(.mk (Option.some 44) (.isIface [] [8, 10, 11, 14, 15, 16, 17, 19, 77, 98, 100, 101, 102, 105, 113, 114, 115, 120, 124, 125, 126,
  142, 143, 144, 147, 148, 149, 177, 181, 184, 202, 224] Bool.true (.tmp 36)) Option.none), (.mk (Option.some 45) (.extract (.tmp 44) 1) Option.none), (.mk (Option.some 46)
  (.extract (.tmp 44) 0) Option.none)]) (.cond (.tmp 45) (.seq (.region [(.mk (Option.some 12) (.mv (.tmp 46)) Option.none)]) (.seq (.seq (.region [(.mk (Option.some 47) (.mv (.tmp
  12)) Option.none), (.mk (Option.some 48) (.invoke (.tmp 47) [(98, (161, (Option.some (0, (1, Bool.true))))), (100, (161, Option.none)), (124, (161, (Option.some (0, (1,
  Bool.true))))), (142, (161, (Option.some (0, (1, Bool.true))))), (184, (181, Option.none))] []) Option.none), (.mk (Option.some 49) (.len (.tmp 48)) Option.none), (.mk
  (Option.some 50) (.mv (.const (.int .i64 0))) Option.none)]) (.block 3 (.loop (.seq (.region [(.mk (Option.some 51) (.bin .lss (.tmp 50) (.tmp 49)) Option.none)]) (.seq (.cond
  (.tmp 51) .skip (.exit 3)) (.seq (.block 4 (.seq (.region [(.mk (Option.some 52) (.atSlice 1 (.tmp 48) (.tmp 50)) Option.none), (.mk (Option.some 53) (.load 1 Bool.false (.tmp
  52)) Option.none), (.mk (Option.some 14) (.mv (.tmp 53)) Option.none)]) (.seq (.seq (.region [(.mk (Option.some 54) (.mv (.tmp 14)) Option.none), (.mk (Option.some 55) (.eq
  (.iface Bool.true) Bool.false (.tmp 54) (.const .nilIface)) Option.none)]) (.cond (.tmp 55) (.exit 4) .skip)) (.seq (.region [(.mk (Option.some 56) (.mv (.tmp 14)) Option.none),
  (.mk (Option.some 57) (.mv (.tmp 1)) Option.none), (.mk (Option.some 58) (.load 3 Bool.true (.tmp 6)) Option.none), (.mk (Option.some 59) (.mv (.tmp 3)) Option.none), (.mk
  (Option.some 60) (.call 76 [(.tmp 56), (.tmp 57), (.tmp 58), (.tmp 59)]) Option.none)]) (.cond (.tmp 60) (.seq (.region [(.mk (Option.some 8) (.mv (.const (.bool Bool.true)))
  Option.none)]) .ret) .skip))))) (.region [(.mk (Option.some 61) (.bin .add (.tmp 50) (.const (.int .i64 1))) Option.none), (.mk (Option.some 50) (.mv (.tmp 61))
  Option.none)]))))))) (.seq (.region [(.mk (Option.some 8) (.mv (.const (.bool Bool.false))) Option.none)]) .ret))) (.seq (.region [(.mk (Option.some 15) (.mv (.tmp 36))
  Option.none)]) (.seq (.region [(.mk (Option.some 8) (.mv (.const (.bool Bool.false))) Option.none)]) .ret)))))))))))))) 62 [(.tmp 8)])
def a77 : AFn :=
  (.mk (.seq (.region [(.mk (Option.some 4) (.mv (.const (.int .i64 0))) Option.none)]) (.seq (.seq (.region [(.mk (Option.some 6) (.mv (.tmp 0)) Option.none), (.mk (Option.some 7)
  (.len (.tmp 6)) Option.none), (.mk (Option.some 8) (.mv (.const (.int .i64 0))) Option.none)]) (.block 0 (.loop (.seq (.region [(.mk (Option.some 9) (.bin .lss (.tmp 8) (.tmp 7))
  Option.none)]) (.seq (.cond (.tmp 9) .skip (.exit 0)) (.seq (.block 1 (.seq (.region [(.mk (Option.some 10) (.mv (.tmp 8)) Option.none), (.mk (Option.some 5) (.mv (.tmp 10))
  Option.none)]) (.seq (.region [(.mk (Option.some 11) (.mv (.tmp 1)) Option.none), (.mk (Option.some 12) (.mv (.tmp 0)) Option.none), (.mk (Option.some 13) (.mv (.tmp 5))
  Option.none), (.mk (Option.some 14) (.atSlice 1 (.tmp 12) (.tmp 13)) Option.none), (.mk (Option.some 15) (.load 1 Bool.false (.tmp 14)) Option.none), (.mk (Option.some 16) (.bin
  .eql (.tmp 11) (.tmp 15)) Option.none)]) (.cond (.tmp 16) (.seq (.region [(.mk (Option.some 17) (.mv (.tmp 5)) Option.none), (.mk (Option.some 4) (.mv (.tmp 17)) Option.none)])
  .ret) .skip)))) (.region [(.mk (Option.some 18) (.bin .add (.tmp 8) (.const (.int .i64 1))) Option.none), (.mk (Option.some 8) (.mv (.tmp 18)) Option.none)]))))))) (.seq (.region
  [(.mk (Option.some 4) (.mv (.const (.int .i64 (-1)))) Option.none)]) .ret))) 19 [(.tmp 4)])
def a78 : AFn :=
  (.mk (.seq (.region [(.mk (Option.some 8) (.mv (.tmp 1)) Option.none), (.mk (Option.some 9) (.bin .add (.tmp 8) (.const (.int .i64 1))) Option.none), (.mk (Option.some 6) (.mv
  (.tmp 9)) Option.none)]) (.block 0 (.loop (.seq (.seq (.region [(.mk (Option.some 10) (.mv (.tmp 6)) Option.none), (.mk (Option.some 11) (.mv (.tmp 2)) Option.none), (.mk
  (Option.some 12) (.bin .lss (.tmp 10) (.tmp 11)) Option.none)]) (.cond (.tmp 12) .skip (.exit 0))) (.seq (.block 1 (.seq (.region [(.mk (Option.some 15) (.mv (.tmp 6))
  Option.none), (.mk (Option.some 7) (.mv (.tmp 15)) Option.none)]) (.block 2 (.loop (.seq (.seq (.draws [((.mk (Option.some 16) (.mv (.tmp 7)) Option.none), (0, 13)), ((.mk
  (Option.some 17) (.mv (.tmp 1)) Option.none), (0, 13)), ((.mk (Option.some 18) (.bin .gtr (.tmp 16) (.tmp 17)) Option.none), (0, 13)), ((.mk (Option.some 19) (.mv (.tmp 18))
  Option.none), (0, 13)), ((.mk (Option.some 20) (.mv (.tmp 0)) (Option.some (19, Bool.true))), (0, 13)), ((.mk (Option.some 21) (.mv (.tmp 7)) (Option.some (19, Bool.true))), (0,
  13)), ((.mk (Option.some 22) (.atSlice 1 (.tmp 20) (.tmp 21)) (Option.some (19, Bool.true))), (0, 13)), ((.mk (Option.some 23) (.load 1 Bool.false (.tmp 22)) (Option.some (19,
  Bool.true))), (0, 13)), ((.mk (Option.some 24) (.mv (.tmp 0)) (Option.some (19, Bool.true))), (0, 13)), ((.mk (Option.some 25) (.mv (.tmp 7)) (Option.some (19, Bool.true))), (0,
  13)), ((.mk (Option.some 26) (.bin .sub (.tmp 25) (.const (.int .i64 1))) (Option.some (19, Bool.true))), (0, 13)), ((.mk (Option.some 27) (.atSlice 1 (.tmp 24) (.tmp 26))
  (Option.some (19, Bool.true))), (0, 13)), ((.mk (Option.some 28) (.load 1 Bool.false (.tmp 27)) (Option.some (19, Bool.true))), (0, 13)), ((.mk (Option.some 29) (.call 84 [(.tmp
  23), (.tmp 28)]) (Option.some (19, Bool.true))), (0, 15)), ((.mk (Option.some 30) (.pick (.tmp 19) (.tmp 29) (.const (.bool Bool.false))) Option.none), (14, 15))]) (.cond (.tmp
  30) .skip (.exit 2))) (.seq (.block 3 (.draws [((.mk (Option.some 33) (.mv (.tmp 0)) Option.none), (0, 15)), ((.mk (Option.some 34) (.mv (.tmp 7)) Option.none), (0, 15)), ((.mk
  (Option.some 35) (.mv (.tmp 0)) Option.none), (0, 17)), ((.mk (Option.some 36) (.mv (.tmp 7)) Option.none), (0, 17)), ((.mk (Option.some 37) (.bin .sub (.tmp 36) (.const (.int
  .i64 1))) Option.none), (0, 17)), ((.mk (Option.some 38) (.mv (.tmp 0)) Option.none), (0, 15)), ((.mk (Option.some 39) (.mv (.tmp 7)) Option.none), (0, 15)), ((.mk (Option.some
  40) (.bin .sub (.tmp 39) (.const (.int .i64 1))) Option.none), (0, 15)), ((.mk (Option.some 41) (.atSlice 1 (.tmp 38) (.tmp 40)) Option.none), (0, 15)), ((.mk (Option.some 42)
  (.load 1 Bool.false (.tmp 41)) Option.none), (0, 15)), ((.mk (Option.some 43) (.mv (.tmp 0)) Option.none), (0, 15)), ((.mk (Option.some 44) (.mv (.tmp 7)) Option.none), (0, 15)),
  ((.mk (Option.some 45) (.atSlice 1 (.tmp 43) (.tmp 44)) Option.none), (0, 15)), ((.mk (Option.some 46) (.load 1 Bool.false (.tmp 45)) Option.none), (0, 15)), ((.mk (Option.some
  47) (.atSlice 1 (.tmp 33) (.tmp 34)) Option.none), (0, 15)), ((.mk Option.none (.store 1 (.tmp 47) (.tmp 42)) Option.none), (0, 17)), ((.mk (Option.some 48) (.atSlice 1 (.tmp 35)
  (.tmp 37)) Option.none), (16, 17)), ((.mk Option.none (.store 1 (.tmp 48) (.tmp 46)) Option.none), (16, 18))])) (.region [(.mk (Option.some 31) (.mv (.tmp 7)) Option.none), (.mk
  (Option.some 32) (.bin .sub (.tmp 31) (.const (.int .i64 1))) Option.none), (.mk (Option.some 7) (.mv (.tmp 32)) Option.none)]))))))) (.region [(.mk (Option.some 13) (.mv (.tmp
  6)) Option.none), (.mk (Option.some 14) (.bin .add (.tmp 13) (.const (.int .i64 1))) Option.none), (.mk (Option.some 6) (.mv (.tmp 14)) Option.none)])))))) 49 [])
end Go.Proofs.YteoioahkflcchaaGreatDoor
