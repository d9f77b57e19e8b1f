/- The functions of the seat as the abstract machine's code: no program in sight. -/
import Derived.Test.YtdgcflackljecaaAmDefs
namespace Go.Proofs.Ytdgcflackljecaa
open Go.AM
set_option maxRecDepth 100000
def a3 : AFn :=
  (AFn.mk (ACode.seq (ACode.region [(AOper.mk (Option.some 6) (AOp.mv (Operand.const (Value.bool Bool.false))) Option.none)]) (ACode.seq (ACode.region [(AOper.mk (Option.some 9)
  (AOp.mv (Operand.tmp 0)) Option.none), (AOper.mk (Option.some 10) (AOp.call 9 [(Operand.tmp 9)]) Option.none), (AOper.mk (Option.some 0) (AOp.mv (Operand.tmp 10)) Option.none)])
  (ACode.seq (ACode.region [(AOper.mk (Option.some 11) (AOp.mv (Operand.tmp 1)) Option.none), (AOper.mk (Option.some 12) (AOp.mv (Operand.tmp 0)) Option.none), (AOper.mk
  (Option.some 13) (AOp.len (Operand.tmp 12)) Option.none), (AOper.mk (Option.some 14) (AOp.bin BinOp.add (Operand.tmp 13) (Operand.const (Value.int IntKind.i64 1))) Option.none),
  (AOper.mk (Option.some 15) (AOp.bin BinOp.rem (Operand.tmp 11) (Operand.tmp 14)) Option.none), (AOper.mk (Option.some 7) (AOp.mv (Operand.tmp 15)) Option.none)]) (ACode.seq
  (ACode.seq (ACode.region [(AOper.mk (Option.some 16) (AOp.mv (Operand.tmp 7)) Option.none), (AOper.mk (Option.some 17) (AOp.bin BinOp.lss (Operand.tmp 16) (Operand.const
  (Value.int IntKind.i64 0))) Option.none)]) (ACode.cond (Operand.tmp 17) (ACode.region [(AOper.mk (Option.some 18) (AOp.mv (Operand.tmp 7)) Option.none), (AOper.mk (Option.some
  19) (AOp.un UnOp.neg (Operand.tmp 18)) Option.none), (AOper.mk (Option.some 7) (AOp.mv (Operand.tmp 19)) Option.none)]) ACode.skip)) (ACode.seq (ACode.region [(AOper.mk
  (Option.some 20) (AOp.mv (Operand.tmp 2)) Option.none), (AOper.mk (Option.some 21) (AOp.mv (Operand.tmp 0)) Option.none), (AOper.mk (Option.some 22) (AOp.len (Operand.tmp 21))
  Option.none), (AOper.mk (Option.some 23) (AOp.mv (Operand.tmp 7)) Option.none), (AOper.mk (Option.some 24) (AOp.bin BinOp.sub (Operand.tmp 22) (Operand.tmp 23)) Option.none),
  (AOper.mk (Option.some 25) (AOp.bin BinOp.add (Operand.tmp 24) (Operand.const (Value.int IntKind.i64 1))) Option.none), (AOper.mk (Option.some 26) (AOp.bin BinOp.rem (Operand.tmp
  20) (Operand.tmp 25)) Option.none), (AOper.mk (Option.some 8) (AOp.mv (Operand.tmp 26)) Option.none)]) (ACode.seq (ACode.seq (ACode.region [(AOper.mk (Option.some 27) (AOp.mv
  (Operand.tmp 8)) Option.none), (AOper.mk (Option.some 28) (AOp.bin BinOp.lss (Operand.tmp 27) (Operand.const (Value.int IntKind.i64 0))) Option.none)]) (ACode.cond (Operand.tmp
  28) (ACode.region [(AOper.mk (Option.some 29) (AOp.mv (Operand.tmp 8)) Option.none), (AOper.mk (Option.some 30) (AOp.un UnOp.neg (Operand.tmp 29)) Option.none), (AOper.mk
  (Option.some 8) (AOp.mv (Operand.tmp 30)) Option.none)]) ACode.skip)) (ACode.seq (ACode.draws [((AOper.mk (Option.some 31) (AOp.mv (Operand.tmp 0)) Option.none), (0, 1)),
  ((AOper.mk (Option.some 32) (AOp.buildSlice 1 1 [(AV.slice Option.none 0 0 0 0)] [(0, (1, (Operand.tmp 31)))]) Option.none), (0, 2)), ((AOper.mk (Option.some 33) (AOp.call 10
  [(Operand.tmp 32)]) Option.none), (2, 4)), ((AOper.mk (Option.some 34) (AOp.mv (Operand.tmp 0)) Option.none), (0, 4)), ((AOper.mk (Option.some 35) (AOp.call 11 [(Operand.tmp
  34)]) Option.none), (3, 21)), ((AOper.mk (Option.some 36) (AOp.bin BinOp.eql (Operand.tmp 33) (Operand.tmp 35)) Option.none), (5, 21)), ((AOper.mk (Option.some 37) (AOp.mv
  (Operand.tmp 36)) Option.none), (5, 21)), ((AOper.mk (Option.some 38) (AOp.mv (Operand.tmp 0)) (Option.some (37, Bool.true))), (5, 21)), ((AOper.mk (Option.some 39) (AOp.mv
  (Operand.tmp 7)) (Option.some (37, Bool.true))), (5, 21)), ((AOper.mk (Option.some 40) (AOp.cutSlice 1 (Operand.tmp 38) Option.none (Option.some (Operand.tmp 39)) Option.none)
  (Option.some (37, Bool.true))), (5, 21)), ((AOper.mk (Option.some 41) (AOp.mv (Operand.tmp 0)) (Option.some (37, Bool.true))), (5, 21)), ((AOper.mk (Option.some 42) (AOp.mv
  (Operand.tmp 7)) (Option.some (37, Bool.true))), (5, 21)), ((AOper.mk (Option.some 43) (AOp.mv (Operand.tmp 7)) (Option.some (37, Bool.true))), (5, 21)), ((AOper.mk (Option.some
  44) (AOp.mv (Operand.tmp 8)) (Option.some (37, Bool.true))), (5, 21)), ((AOper.mk (Option.some 45) (AOp.bin BinOp.add (Operand.tmp 43) (Operand.tmp 44)) (Option.some (37,
  Bool.true))), (5, 21)), ((AOper.mk (Option.some 46) (AOp.cutSlice 1 (Operand.tmp 41) (Option.some (Operand.tmp 42)) (Option.some (Operand.tmp 45)) Option.none) (Option.some (37,
  Bool.true))), (5, 21)), ((AOper.mk (Option.some 47) (AOp.mv (Operand.tmp 0)) (Option.some (37, Bool.true))), (5, 21)), ((AOper.mk (Option.some 48) (AOp.mv (Operand.tmp 7))
  (Option.some (37, Bool.true))), (5, 21)), ((AOper.mk (Option.some 49) (AOp.mv (Operand.tmp 8)) (Option.some (37, Bool.true))), (5, 21)), ((AOper.mk (Option.some 50) (AOp.bin
  BinOp.add (Operand.tmp 48) (Operand.tmp 49)) (Option.some (37, Bool.true))), (5, 21)), ((AOper.mk (Option.some 51) (AOp.cutSlice 1 (Operand.tmp 47) (Option.some (Operand.tmp 50))
  Option.none Option.none) (Option.some (37, Bool.true))), (5, 21)), ((AOper.mk (Option.some 52) (AOp.buildSlice 4 1 [(AV.slice Option.none 0 0 0 0), (AV.slice Option.none 0 0 0
  0), (AV.slice Option.none 0 0 0 0), (AV.slice Option.none 0 0 0 0)] [(0, (1, (Operand.tmp 40))), (1, (1, (Operand.tmp 46))), (2, (1, (Operand.const (Value.slice Option.none 0
  0)))), (3, (1, (Operand.tmp 51)))]) (Option.some (37, Bool.true))), (5, 22)), ((AOper.mk (Option.some 53) (AOp.call 10 [(Operand.tmp 52)]) (Option.some (37, Bool.true))), (22,
  24)), ((AOper.mk (Option.some 54) (AOp.mv (Operand.tmp 0)) (Option.some (37, Bool.true))), (5, 24)), ((AOper.mk (Option.some 55) (AOp.call 11 [(Operand.tmp 54)]) (Option.some
  (37, Bool.true))), (23, 28)), ((AOper.mk (Option.some 56) (AOp.bin BinOp.eql (Operand.tmp 53) (Operand.tmp 55)) (Option.some (37, Bool.true))), (25, 28)), ((AOper.mk (Option.some
  57) (AOp.pick (Operand.tmp 37) (Operand.tmp 56) (Operand.const (Value.bool Bool.false))) Option.none), (25, 28)), ((AOper.mk (Option.some 58) (AOp.mv (Operand.tmp 57))
  Option.none), (25, 28)), ((AOper.mk (Option.some 59) (AOp.call 12 []) (Option.some (58, Bool.true))), (25, 31)), ((AOper.mk (Option.some 60) (AOp.pick (Operand.tmp 58)
  (Operand.tmp 59) (Operand.const (Value.bool Bool.false))) Option.none), (29, 31)), ((AOper.mk (Option.some 6) (AOp.mv (Operand.tmp 60)) Option.none), (29, 31))]) ACode.ret)))))))
  61 [(ARes.tmp 6)])
def a4 : AFn :=
  (AFn.mk (ACode.seq (ACode.region [(AOper.mk (Option.some 4) (AOp.mv (Operand.const (Value.bool Bool.false))) Option.none)]) (ACode.seq (ACode.region [(AOper.mk (Option.some 14)
  (AOp.mv (Operand.tmp 0)) Option.none), (AOper.mk (Option.some 15) (AOp.call 9 [(Operand.tmp 14)]) Option.none), (AOper.mk (Option.some 0) (AOp.mv (Operand.tmp 15)) Option.none)])
  (ACode.seq (ACode.region [(AOper.mk (Option.some 16) (AOp.mv (Operand.tmp 1)) Option.none), (AOper.mk (Option.some 17) (AOp.mv (Operand.tmp 0)) Option.none), (AOper.mk
  (Option.some 18) (AOp.len (Operand.tmp 17)) Option.none), (AOper.mk (Option.some 19) (AOp.bin BinOp.add (Operand.tmp 18) (Operand.const (Value.int IntKind.i64 1))) Option.none),
  (AOper.mk (Option.some 20) (AOp.bin BinOp.rem (Operand.tmp 16) (Operand.tmp 19)) Option.none), (AOper.mk (Option.some 5) (AOp.mv (Operand.tmp 20)) Option.none)]) (ACode.seq
  (ACode.seq (ACode.region [(AOper.mk (Option.some 21) (AOp.mv (Operand.tmp 5)) Option.none), (AOper.mk (Option.some 22) (AOp.bin BinOp.lss (Operand.tmp 21) (Operand.const
  (Value.int IntKind.i64 0))) Option.none)]) (ACode.cond (Operand.tmp 22) (ACode.region [(AOper.mk (Option.some 23) (AOp.mv (Operand.tmp 5)) Option.none), (AOper.mk (Option.some
  24) (AOp.un UnOp.neg (Operand.tmp 23)) Option.none), (AOper.mk (Option.some 5) (AOp.mv (Operand.tmp 24)) Option.none)]) ACode.skip)) (ACode.seq (ACode.draws [((AOper.mk
  (Option.some 25) (AOp.mv (Operand.tmp 0)) Option.none), (0, 6)), ((AOper.mk (Option.some 26) (AOp.mv (Operand.tmp 5)) Option.none), (0, 6)), ((AOper.mk (Option.some 27)
  (AOp.cutSlice 1 (Operand.tmp 25) Option.none (Option.some (Operand.tmp 26)) Option.none) Option.none), (0, 6)), ((AOper.mk (Option.some 28) (AOp.mv (Operand.tmp 0)) Option.none),
  (0, 6)), ((AOper.mk (Option.some 29) (AOp.mv (Operand.tmp 5)) Option.none), (0, 6)), ((AOper.mk (Option.some 30) (AOp.cutSlice 1 (Operand.tmp 28) (Option.some (Operand.tmp 29))
  Option.none Option.none) Option.none), (0, 6)), ((AOper.mk (Option.some 31) (AOp.buildSlice 2 1 [(AV.slice Option.none 0 0 0 0), (AV.slice Option.none 0 0 0 0)] [(0, (1,
  (Operand.tmp 27))), (1, (1, (Operand.tmp 30)))]) Option.none), (0, 7)), ((AOper.mk (Option.some 32) (AOp.call 13 [(Operand.tmp 31)]) Option.none), (7, 9)), ((AOper.mk
  (Option.some 6) (AOp.mv (Operand.tmp 32)) Option.none), (8, 9))]) (ACode.seq (ACode.seq (ACode.draws [((AOper.mk (Option.some 33) (AOp.mv (Operand.tmp 6)) Option.none), (0, 8)),
  ((AOper.mk (Option.some 34) (AOp.textOf (Operand.tmp 33)) Option.none), (0, 8)), ((AOper.mk (Option.some 35) (AOp.mv (Operand.tmp 0)) Option.none), (0, 3)), ((AOper.mk
  (Option.some 36) (AOp.call 14 [(Operand.tmp 35)]) Option.none), (0, 8)), ((AOper.mk (Option.some 37) (AOp.textOf (Operand.tmp 36)) Option.none), (4, 8)), ((AOper.mk (Option.some
  38) (AOp.bin BinOp.neq (Operand.tmp 34) (Operand.tmp 37)) Option.none), (4, 8)), ((AOper.mk (Option.some 39) (AOp.mv (Operand.tmp 38)) Option.none), (4, 8)), ((AOper.mk
  (Option.some 40) (AOp.mv (Operand.tmp 0)) (Option.some (39, Bool.false))), (4, 8)), ((AOper.mk (Option.some 41) (AOp.buildSlice 1 1 [(AV.slice Option.none 0 0 0 0)] [(0, (1,
  (Operand.tmp 40)))]) (Option.some (39, Bool.false))), (4, 9)), ((AOper.mk (Option.some 42) (AOp.call 13 [(Operand.tmp 41)]) (Option.some (39, Bool.false))), (9, 15)), ((AOper.mk
  (Option.some 43) (AOp.textOf (Operand.tmp 42)) (Option.some (39, Bool.false))), (10, 15)), ((AOper.mk (Option.some 44) (AOp.mv (Operand.tmp 6)) (Option.some (39, Bool.false))),
  (4, 15)), ((AOper.mk (Option.some 45) (AOp.textOf (Operand.tmp 44)) (Option.some (39, Bool.false))), (4, 15)), ((AOper.mk (Option.some 46) (AOp.bin BinOp.neq (Operand.tmp 43)
  (Operand.tmp 45)) (Option.some (39, Bool.false))), (10, 15)), ((AOper.mk (Option.some 47) (AOp.pick (Operand.tmp 39) (Operand.const (Value.bool Bool.true)) (Operand.tmp 46))
  Option.none), (10, 15))]) (ACode.cond (Operand.tmp 47) (ACode.seq (ACode.region [(AOper.mk (Option.some 4) (AOp.mv (Operand.const (Value.bool Bool.false))) Option.none)])
  ACode.ret) ACode.skip)) (ACode.seq (ACode.region [(AOper.mk (Option.some 49) (AOp.mv (Operand.tmp 6)) Option.none), (AOper.mk (Option.some 50) (AOp.call 15 [(Operand.tmp 49)])
  Option.none), (AOper.mk (Option.some 48) (AOp.mv (Operand.tmp 50)) Option.none), (AOper.mk (Option.some 51) (AOp.extract (Operand.tmp 48) 0) Option.none), (AOper.mk (Option.some
  52) (AOp.extract (Operand.tmp 48) 1) Option.none), (AOper.mk (Option.some 7) (AOp.mv (Operand.tmp 51)) Option.none), (AOper.mk (Option.some 8) (AOp.mv (Operand.tmp 52))
  Option.none)]) (ACode.seq (ACode.region [(AOper.mk (Option.some 54) (AOp.mv (Operand.tmp 6)) Option.none), (AOper.mk (Option.some 55) (AOp.call 16 [(Operand.tmp 54)])
  Option.none), (AOper.mk (Option.some 53) (AOp.mv (Operand.tmp 55)) Option.none), (AOper.mk (Option.some 56) (AOp.extract (Operand.tmp 53) 0) Option.none), (AOper.mk (Option.some
  57) (AOp.extract (Operand.tmp 53) 1) Option.none), (AOper.mk (Option.some 9) (AOp.mv (Operand.tmp 56)) Option.none), (AOper.mk (Option.some 10) (AOp.mv (Operand.tmp 57))
  Option.none)]) (ACode.seq (ACode.seq (ACode.region [(AOper.mk (Option.some 58) (AOp.mv (Operand.tmp 8)) Option.none), (AOper.mk (Option.some 59) (AOp.un UnOp.not (Operand.tmp
  58)) Option.none), (AOper.mk (Option.some 60) (AOp.mv (Operand.tmp 59)) Option.none), (AOper.mk (Option.some 61) (AOp.mv (Operand.tmp 7)) (Option.some (60, Bool.false))),
  (AOper.mk (Option.some 62) (AOp.textOf (Operand.tmp 61)) (Option.some (60, Bool.false))), (AOper.mk (Option.some 63) (AOp.mv (Operand.tmp 0)) (Option.some (60, Bool.false))),
  (AOper.mk (Option.some 64) (AOp.textOf (Operand.tmp 63)) (Option.some (60, Bool.false))), (AOper.mk (Option.some 65) (AOp.bin BinOp.neq (Operand.tmp 62) (Operand.tmp 64))
  (Option.some (60, Bool.false))), (AOper.mk (Option.some 66) (AOp.pick (Operand.tmp 60) (Operand.const (Value.bool Bool.true)) (Operand.tmp 65)) Option.none), (AOper.mk
  (Option.some 67) (AOp.mv (Operand.tmp 66)) Option.none), (AOper.mk (Option.some 68) (AOp.mv (Operand.tmp 10)) (Option.some (67, Bool.false))), (AOper.mk (Option.some 69) (AOp.mv
  (Operand.tmp 6)) (Option.some (67, Bool.false))), (AOper.mk (Option.some 70) (AOp.len (Operand.tmp 69)) (Option.some (67, Bool.false))), (AOper.mk (Option.some 71) (AOp.bin
  BinOp.neq (Operand.tmp 68) (Operand.tmp 70)) (Option.some (67, Bool.false))), (AOper.mk (Option.some 72) (AOp.pick (Operand.tmp 67) (Operand.const (Value.bool Bool.true))
  (Operand.tmp 71)) Option.none), (AOper.mk (Option.some 73) (AOp.mv (Operand.tmp 72)) Option.none), (AOper.mk (Option.some 74) (AOp.mv (Operand.tmp 9)) (Option.some (73,
  Bool.false))), (AOper.mk (Option.some 75) (AOp.textOf (Operand.tmp 74)) (Option.some (73, Bool.false))), (AOper.mk (Option.some 76) (AOp.mv (Operand.tmp 0)) (Option.some (73,
  Bool.false))), (AOper.mk (Option.some 77) (AOp.textOf (Operand.tmp 76)) (Option.some (73, Bool.false))), (AOper.mk (Option.some 78) (AOp.bin BinOp.neq (Operand.tmp 75)
  (Operand.tmp 77)) (Option.some (73, Bool.false))), (AOper.mk (Option.some 79) (AOp.pick (Operand.tmp 73) (Operand.const (Value.bool Bool.true)) (Operand.tmp 78)) Option.none)])
  (ACode.cond (Operand.tmp 79) (ACode.seq (ACode.region [(AOper.mk (Option.some 4) (AOp.mv (Operand.const (Value.bool Bool.false))) Option.none)]) ACode.ret) ACode.skip))
  (ACode.seq (ACode.seq (ACode.region [(AOper.mk (Option.some 80) (AOp.mv (Operand.tmp 7)) Option.none), (AOper.mk (Option.some 81) (AOp.len (Operand.tmp 80)) Option.none),
  (AOper.mk (Option.some 82) (AOp.mv (Operand.const (Value.int IntKind.i64 0))) Option.none)]) (ACode.block 0 (ACode.loop (ACode.seq (ACode.region [(AOper.mk (Option.some 83)
  (AOp.bin BinOp.lss (Operand.tmp 82) (Operand.tmp 81)) Option.none)]) (ACode.seq (ACode.cond (Operand.tmp 83) ACode.skip (ACode.exit 0)) (ACode.seq (ACode.block 1 (ACode.seq
  (ACode.region [(AOper.mk (Option.some 84) (AOp.mv (Operand.tmp 82)) Option.none), (AOper.mk (Option.some 11) (AOp.mv (Operand.tmp 84)) Option.none)]) (ACode.region [(AOper.mk
  (Option.some 85) (AOp.mv (Operand.tmp 7)) Option.none), (AOper.mk (Option.some 86) (AOp.mv (Operand.tmp 11)) Option.none), (AOper.mk (Option.some 87) (AOp.atSlice 1 (Operand.tmp
  85) (Operand.tmp 86)) Option.none), (AOper.mk (Option.some 88) (AOp.load 1 Bool.false (Operand.tmp 87)) Option.none), (AOper.mk (Option.some 89) (AOp.bin BinOp.xor (Operand.tmp
  88) (Operand.const (Value.int IntKind.u8 1))) Option.none), (AOper.mk (Option.some 90) (AOp.atSlice 1 (Operand.tmp 85) (Operand.tmp 86)) Option.none), (AOper.mk Option.none
  (AOp.store 1 (Operand.tmp 90) (Operand.tmp 89)) Option.none)]))) (ACode.region [(AOper.mk (Option.some 91) (AOp.bin BinOp.add (Operand.tmp 82) (Operand.const (Value.int
  IntKind.i64 1))) Option.none), (AOper.mk (Option.some 82) (AOp.mv (Operand.tmp 91)) Option.none)]))))))) (ACode.seq (ACode.region [(AOper.mk (Option.some 93) (AOp.mv (Operand.tmp
  6)) Option.none), (AOper.mk (Option.some 94) (AOp.call 15 [(Operand.tmp 93)]) Option.none), (AOper.mk (Option.some 92) (AOp.mv (Operand.tmp 94)) Option.none), (AOper.mk
  (Option.some 95) (AOp.extract (Operand.tmp 92) 0) Option.none), (AOper.mk (Option.some 96) (AOp.extract (Operand.tmp 92) 1) Option.none), (AOper.mk (Option.some 12) (AOp.mv
  (Operand.tmp 95)) Option.none), (AOper.mk (Option.some 13) (AOp.mv (Operand.tmp 96)) Option.none)]) (ACode.seq (ACode.region [(AOper.mk (Option.some 97) (AOp.mv (Operand.tmp 12))
  Option.none), (AOper.mk (Option.some 98) (AOp.textOf (Operand.tmp 97)) Option.none), (AOper.mk (Option.some 99) (AOp.mv (Operand.tmp 0)) Option.none), (AOper.mk (Option.some 100)
  (AOp.textOf (Operand.tmp 99)) Option.none), (AOper.mk (Option.some 101) (AOp.bin BinOp.eql (Operand.tmp 98) (Operand.tmp 100)) Option.none), (AOper.mk (Option.some 102) (AOp.mv
  (Operand.tmp 101)) Option.none), (AOper.mk (Option.some 103) (AOp.call 12 []) (Option.some (102, Bool.true))), (AOper.mk (Option.some 104) (AOp.pick (Operand.tmp 102)
  (Operand.tmp 103) (Operand.const (Value.bool Bool.false))) Option.none), (AOper.mk (Option.some 4) (AOp.mv (Operand.tmp 104)) Option.none)]) ACode.ret)))))))))))) 105 [(ARes.tmp
  4)])
def a5 : AFn :=
  (AFn.mk (ACode.seq (ACode.region [(AOper.mk (Option.some 4) (AOp.mv (Operand.const (Value.bool Bool.false))) Option.none)]) (ACode.seq (ACode.region [(AOper.mk (Option.some 8)
  (AOp.mv (Operand.tmp 0)) Option.none), (AOper.mk (Option.some 9) (AOp.call 9 [(Operand.tmp 8)]) Option.none), (AOper.mk (Option.some 10) (AOp.buildSlice 1 1 [(AV.slice
  Option.none 0 0 0 0)] [(0, (1, (Operand.tmp 9)))]) Option.none), (AOper.mk (Option.some 11) (AOp.call 13 [(Operand.tmp 10)]) Option.none), (AOper.mk (Option.some 5) (AOp.mv
  (Operand.tmp 11)) Option.none)]) (ACode.seq (ACode.seq (ACode.region [(AOper.mk (Option.some 12) (AOp.mv (Operand.tmp 5)) Option.none), (AOper.mk (Option.some 13) (AOp.len
  (Operand.tmp 12)) Option.none), (AOper.mk (Option.some 14) (AOp.mv (Operand.tmp 0)) Option.none), (AOper.mk (Option.some 15) (AOp.call 9 [(Operand.tmp 14)]) Option.none),
  (AOper.mk (Option.some 16) (AOp.len (Operand.tmp 15)) Option.none), (AOper.mk (Option.some 17) (AOp.bin BinOp.add (Operand.tmp 16) (Operand.const (Value.int IntKind.i64 7)))
  Option.none), (AOper.mk (Option.some 18) (AOp.bin BinOp.neq (Operand.tmp 13) (Operand.tmp 17)) Option.none)]) (ACode.cond (Operand.tmp 18) (ACode.seq (ACode.region [(AOper.mk
  (Option.some 4) (AOp.mv (Operand.const (Value.bool Bool.false))) Option.none)]) ACode.ret) ACode.skip)) (ACode.seq (ACode.region [(AOper.mk (Option.some 19) (AOp.mv (Operand.tmp
  1)) Option.none), (AOper.mk (Option.some 20) (AOp.mv (Operand.tmp 5)) Option.none), (AOper.mk (Option.some 21) (AOp.len (Operand.tmp 20)) Option.none), (AOper.mk (Option.some 22)
  (AOp.bin BinOp.mul (Operand.const (Value.int IntKind.i64 8)) (Operand.tmp 21)) Option.none), (AOper.mk (Option.some 23) (AOp.bin BinOp.rem (Operand.tmp 19) (Operand.tmp 22))
  Option.none), (AOper.mk (Option.some 1) (AOp.mv (Operand.tmp 23)) Option.none)]) (ACode.seq (ACode.seq (ACode.region [(AOper.mk (Option.some 24) (AOp.mv (Operand.tmp 1))
  Option.none), (AOper.mk (Option.some 25) (AOp.bin BinOp.lss (Operand.tmp 24) (Operand.const (Value.int IntKind.i64 0))) Option.none)]) (ACode.cond (Operand.tmp 25) (ACode.region
  [(AOper.mk (Option.some 26) (AOp.mv (Operand.tmp 1)) Option.none), (AOper.mk (Option.some 27) (AOp.un UnOp.neg (Operand.tmp 26)) Option.none), (AOper.mk (Option.some 1) (AOp.mv
  (Operand.tmp 27)) Option.none)]) ACode.skip)) (ACode.seq (ACode.region [(AOper.mk (Option.some 28) (AOp.mv (Operand.tmp 5)) Option.none), (AOper.mk (Option.some 29) (AOp.mv
  (Operand.tmp 1)) Option.none), (AOper.mk (Option.some 30) (AOp.bin BinOp.quo (Operand.tmp 29) (Operand.const (Value.int IntKind.i64 8))) Option.none), (AOper.mk (Option.some 31)
  (AOp.atSlice 1 (Operand.tmp 28) (Operand.tmp 30)) Option.none), (AOper.mk (Option.some 32) (AOp.load 1 Bool.false (Operand.tmp 31)) Option.none), (AOper.mk (Option.some 33)
  (AOp.mv (Operand.tmp 1)) Option.none), (AOper.mk (Option.some 34) (AOp.bin BinOp.rem (Operand.tmp 33) (Operand.const (Value.int IntKind.i64 8))) Option.none), (AOper.mk
  (Option.some 35) (AOp.conv IntKind.u64 (Operand.tmp 34)) Option.none), (AOper.mk (Option.some 36) (AOp.bin BinOp.shl (Operand.const (Value.int IntKind.u8 1)) (Operand.tmp 35))
  Option.none), (AOper.mk (Option.some 37) (AOp.bin BinOp.xor (Operand.tmp 32) (Operand.tmp 36)) Option.none), (AOper.mk (Option.some 38) (AOp.atSlice 1 (Operand.tmp 28)
  (Operand.tmp 30)) Option.none), (AOper.mk Option.none (AOp.store 1 (Operand.tmp 38) (Operand.tmp 37)) Option.none)]) (ACode.seq (ACode.region [(AOper.mk (Option.some 40) (AOp.mv
  (Operand.tmp 5)) Option.none), (AOper.mk (Option.some 41) (AOp.call 15 [(Operand.tmp 40)]) Option.none), (AOper.mk (Option.some 39) (AOp.mv (Operand.tmp 41)) Option.none),
  (AOper.mk (Option.some 42) (AOp.extract (Operand.tmp 39) 0) Option.none), (AOper.mk (Option.some 43) (AOp.extract (Operand.tmp 39) 1) Option.none), (AOper.mk (Option.some 6)
  (AOp.mv (Operand.tmp 42)) Option.none), (AOper.mk (Option.some 7) (AOp.mv (Operand.tmp 43)) Option.none)]) (ACode.seq (ACode.region [(AOper.mk (Option.some 44) (AOp.mv
  (Operand.tmp 7)) Option.none), (AOper.mk (Option.some 45) (AOp.un UnOp.not (Operand.tmp 44)) Option.none), (AOper.mk (Option.some 46) (AOp.mv (Operand.tmp 45)) Option.none),
  (AOper.mk (Option.some 47) (AOp.mv (Operand.tmp 6)) (Option.some (46, Bool.true))), (AOper.mk (Option.some 48) (AOp.len (Operand.tmp 47)) (Option.some (46, Bool.true))),
  (AOper.mk (Option.some 49) (AOp.bin BinOp.eql (Operand.tmp 48) (Operand.const (Value.int IntKind.i64 0))) (Option.some (46, Bool.true))), (AOper.mk (Option.some 50) (AOp.pick
  (Operand.tmp 46) (Operand.tmp 49) (Operand.const (Value.bool Bool.false))) Option.none), (AOper.mk (Option.some 51) (AOp.mv (Operand.tmp 50)) Option.none), (AOper.mk (Option.some
  52) (AOp.call 12 []) (Option.some (51, Bool.true))), (AOper.mk (Option.some 53) (AOp.pick (Operand.tmp 51) (Operand.tmp 52) (Operand.const (Value.bool Bool.false))) Option.none),
  (AOper.mk (Option.some 4) (AOp.mv (Operand.tmp 53)) Option.none)]) ACode.ret)))))))) 54 [(ARes.tmp 4)])
def a6 : AFn :=
  (AFn.mk (ACode.seq (ACode.region [(AOper.mk (Option.some 4) (AOp.mv (Operand.const (Value.bool Bool.false))) Option.none)]) (ACode.seq (ACode.region [(AOper.mk (Option.some 9)
  (AOp.mv (Operand.tmp 0)) Option.none), (AOper.mk (Option.some 10) (AOp.bin BinOp.rem (Operand.tmp 9) (Operand.const (Value.int IntKind.i64 30))) Option.none), (AOper.mk
  (Option.some 11) (AOp.bin BinOp.add (Operand.const (Value.int IntKind.i64 16384)) (Operand.tmp 10)) Option.none), (AOper.mk (Option.some 12) (AOp.makeSlice 1 1 [(AV.int
  IntKind.u8 0)] (Operand.tmp 11) (Operand.tmp 11)) Option.none), (AOper.mk (Option.some 5) (AOp.mv (Operand.tmp 12)) Option.none)]) (ACode.seq (ACode.region [(AOper.mk
  (Option.some 13) (AOp.mv (Operand.tmp 1)) Option.none), (AOper.mk (Option.some 14) (AOp.mv (Operand.tmp 5)) Option.none), (AOper.mk (Option.some 15) (AOp.len (Operand.tmp 14))
  Option.none), (AOper.mk (Option.some 16) (AOp.bin BinOp.rem (Operand.tmp 13) (Operand.tmp 15)) Option.none), (AOper.mk (Option.some 1) (AOp.mv (Operand.tmp 16)) Option.none)])
  (ACode.seq (ACode.seq (ACode.region [(AOper.mk (Option.some 17) (AOp.mv (Operand.tmp 1)) Option.none), (AOper.mk (Option.some 18) (AOp.bin BinOp.lss (Operand.tmp 17)
  (Operand.const (Value.int IntKind.i64 0))) Option.none)]) (ACode.cond (Operand.tmp 18) (ACode.region [(AOper.mk (Option.some 19) (AOp.mv (Operand.tmp 1)) Option.none), (AOper.mk
  (Option.some 20) (AOp.un UnOp.neg (Operand.tmp 19)) Option.none), (AOper.mk (Option.some 1) (AOp.mv (Operand.tmp 20)) Option.none)]) ACode.skip)) (ACode.seq (ACode.draws
  [((AOper.mk (Option.some 21) (AOp.mv (Operand.tmp 5)) Option.none), (0, 6)), ((AOper.mk (Option.some 22) (AOp.mv (Operand.tmp 1)) Option.none), (0, 6)), ((AOper.mk (Option.some
  23) (AOp.cutSlice 1 (Operand.tmp 21) Option.none (Option.some (Operand.tmp 22)) Option.none) Option.none), (0, 6)), ((AOper.mk (Option.some 24) (AOp.mv (Operand.tmp 5))
  Option.none), (0, 6)), ((AOper.mk (Option.some 25) (AOp.mv (Operand.tmp 1)) Option.none), (0, 6)), ((AOper.mk (Option.some 26) (AOp.cutSlice 1 (Operand.tmp 24) (Option.some
  (Operand.tmp 25)) Option.none Option.none) Option.none), (0, 6)), ((AOper.mk (Option.some 27) (AOp.buildSlice 2 1 [(AV.slice Option.none 0 0 0 0), (AV.slice Option.none 0 0 0 0)]
  [(0, (1, (Operand.tmp 23))), (1, (1, (Operand.tmp 26)))]) Option.none), (0, 7)), ((AOper.mk (Option.some 28) (AOp.call 13 [(Operand.tmp 27)]) Option.none), (7, 9)), ((AOper.mk
  (Option.some 6) (AOp.mv (Operand.tmp 28)) Option.none), (8, 9))]) (ACode.seq (ACode.seq (ACode.region [(AOper.mk (Option.some 29) (AOp.mv (Operand.tmp 5)) Option.none), (AOper.mk
  (Option.some 30) (AOp.len (Operand.tmp 29)) Option.none), (AOper.mk (Option.some 31) (AOp.bin BinOp.gtr (Operand.tmp 30) (Operand.const (Value.int IntKind.i64 16384)))
  Option.none)]) (ACode.cond (Operand.tmp 31) (ACode.seq (ACode.region [(AOper.mk (Option.some 32) (AOp.mv (Operand.tmp 6)) Option.none), (AOper.mk (Option.some 33) (AOp.len
  (Operand.tmp 32)) Option.none), (AOper.mk (Option.some 34) (AOp.bin BinOp.eql (Operand.tmp 33) (Operand.const (Value.int IntKind.i64 0))) Option.none), (AOper.mk (Option.some 35)
  (AOp.mv (Operand.tmp 34)) Option.none), (AOper.mk (Option.some 36) (AOp.call 12 []) (Option.some (35, Bool.true))), (AOper.mk (Option.some 37) (AOp.pick (Operand.tmp 35)
  (Operand.tmp 36) (Operand.const (Value.bool Bool.false))) Option.none), (AOper.mk (Option.some 4) (AOp.mv (Operand.tmp 37)) Option.none)]) ACode.ret) ACode.skip)) (ACode.seq
  (ACode.region [(AOper.mk (Option.some 39) (AOp.mv (Operand.tmp 6)) Option.none), (AOper.mk (Option.some 40) (AOp.call 15 [(Operand.tmp 39)]) Option.none), (AOper.mk (Option.some
  38) (AOp.mv (Operand.tmp 40)) Option.none), (AOper.mk (Option.some 41) (AOp.extract (Operand.tmp 38) 0) Option.none), (AOper.mk (Option.some 42) (AOp.extract (Operand.tmp 38) 1)
  Option.none), (AOper.mk (Option.some 7) (AOp.mv (Operand.tmp 41)) Option.none), (AOper.mk (Option.some 8) (AOp.mv (Operand.tmp 42)) Option.none)]) (ACode.seq (ACode.region
  [(AOper.mk (Option.some 43) (AOp.mv (Operand.tmp 8)) Option.none), (AOper.mk (Option.some 44) (AOp.mv (Operand.tmp 43)) Option.none), (AOper.mk (Option.some 45) (AOp.mv
  (Operand.tmp 7)) (Option.some (44, Bool.true))), (AOper.mk (Option.some 46) (AOp.len (Operand.tmp 45)) (Option.some (44, Bool.true))), (AOper.mk (Option.some 47) (AOp.mv
  (Operand.tmp 5)) (Option.some (44, Bool.true))), (AOper.mk (Option.some 48) (AOp.len (Operand.tmp 47)) (Option.some (44, Bool.true))), (AOper.mk (Option.some 49) (AOp.bin
  BinOp.eql (Operand.tmp 46) (Operand.tmp 48)) (Option.some (44, Bool.true))), (AOper.mk (Option.some 50) (AOp.pick (Operand.tmp 44) (Operand.tmp 49) (Operand.const (Value.bool
  Bool.false))) Option.none), (AOper.mk (Option.some 51) (AOp.mv (Operand.tmp 50)) Option.none), (AOper.mk (Option.some 52) (AOp.call 12 []) (Option.some (51, Bool.true))),
  (AOper.mk (Option.some 53) (AOp.pick (Operand.tmp 51) (Operand.tmp 52) (Operand.const (Value.bool Bool.false))) Option.none), (AOper.mk (Option.some 4) (AOp.mv (Operand.tmp 53))
  Option.none)]) ACode.ret)))))))) 54 [(ARes.tmp 4)])
def a7 : AFn :=
  (AFn.mk (ACode.seq (ACode.region [(AOper.mk (Option.some 8) (AOp.mv (Operand.const (Value.bool Bool.false))) Option.none)]) (ACode.seq (ACode.region [(AOper.mk (Option.some 9)
  (AOp.mv (Operand.const (Value.slice Option.none 0 0))) Option.none)]) (ACode.seq (ACode.seq (ACode.region [(AOper.mk (Option.some 28) (AOp.mv (Operand.tmp 0)) Option.none),
  (AOper.mk (Option.some 29) (AOp.len (Operand.tmp 28)) Option.none), (AOper.mk (Option.some 30) (AOp.mv (Operand.const (Value.int IntKind.i64 0))) Option.none)]) (ACode.block 0
  (ACode.loop (ACode.seq (ACode.region [(AOper.mk (Option.some 31) (AOp.bin BinOp.lss (Operand.tmp 30) (Operand.tmp 29)) Option.none)]) (ACode.seq (ACode.cond (Operand.tmp 31)
  ACode.skip (ACode.exit 0)) (ACode.seq (ACode.block 1 (ACode.seq (ACode.region [(AOper.mk (Option.some 32) (AOp.mv (Operand.tmp 30)) Option.none), (AOper.mk (Option.some 33)
  (AOp.atSlice 1 (Operand.tmp 28) (Operand.tmp 30)) Option.none), (AOper.mk (Option.some 34) (AOp.load 1 Bool.false (Operand.tmp 33)) Option.none), (AOper.mk (Option.some 10)
  (AOp.mv (Operand.tmp 32)) Option.none), (AOper.mk (Option.some 11) (AOp.mv (Operand.tmp 34)) Option.none)]) (ACode.seq (ACode.region [(AOper.mk (Option.some 35) (AOp.mv
  (Operand.tmp 10)) Option.none), (AOper.mk (Option.some 36) (AOp.bin BinOp.lss (Operand.tmp 35) (Operand.const (Value.int IntKind.i64 5))) Option.none)]) (ACode.cond (Operand.tmp
  36) (ACode.region [(AOper.mk (Option.some 37) (AOp.mv (Operand.tmp 9)) Option.none), (AOper.mk (Option.some 38) (AOp.mv (Operand.tmp 11)) Option.none), (AOper.mk (Option.some 39)
  (AOp.call 9 [(Operand.tmp 38)]) Option.none), (AOper.mk (Option.some 40) (AOp.call 14 [(Operand.tmp 39)]) Option.none), (AOper.mk (Option.some 41) (AOp.append Bool.false 1 1
  (Operand.tmp 37) (Operand.tmp 40)) Option.none), (AOper.mk (Option.some 9) (AOp.mv (Operand.tmp 41)) Option.none)]) ACode.skip)))) (ACode.region [(AOper.mk (Option.some 42)
  (AOp.bin BinOp.add (Operand.tmp 30) (Operand.const (Value.int IntKind.i64 1))) Option.none), (AOper.mk (Option.some 30) (AOp.mv (Operand.tmp 42)) Option.none)]))))))) (ACode.seq
  (ACode.region [(AOper.mk (Option.some 43) (AOp.mv (Operand.tmp 9)) Option.none), (AOper.mk (Option.some 44) (AOp.mv (Operand.tmp 1)) Option.none), (AOper.mk (Option.some 45)
  (AOp.call 9 [(Operand.tmp 44)]) Option.none), (AOper.mk (Option.some 46) (AOp.append Bool.false 1 1 (Operand.tmp 43) (Operand.tmp 45)) Option.none), (AOper.mk (Option.some 9)
  (AOp.mv (Operand.tmp 46)) Option.none)]) (ACode.seq (ACode.seq (ACode.region [(AOper.mk (Option.some 47) (AOp.mv (Operand.tmp 9)) Option.none), (AOper.mk (Option.some 48)
  (AOp.len (Operand.tmp 47)) Option.none), (AOper.mk (Option.some 49) (AOp.bin BinOp.gtr (Operand.tmp 48) (Operand.const (Value.int IntKind.i64 0))) Option.none)]) (ACode.cond
  (Operand.tmp 49) (ACode.seq (ACode.region [(AOper.mk (Option.some 50) (AOp.mv (Operand.tmp 2)) Option.none), (AOper.mk (Option.some 51) (AOp.mv (Operand.tmp 9)) Option.none),
  (AOper.mk (Option.some 52) (AOp.len (Operand.tmp 51)) Option.none), (AOper.mk (Option.some 53) (AOp.bin BinOp.rem (Operand.tmp 50) (Operand.tmp 52)) Option.none), (AOper.mk
  (Option.some 12) (AOp.mv (Operand.tmp 53)) Option.none)]) (ACode.seq (ACode.seq (ACode.region [(AOper.mk (Option.some 54) (AOp.mv (Operand.tmp 12)) Option.none), (AOper.mk
  (Option.some 55) (AOp.bin BinOp.lss (Operand.tmp 54) (Operand.const (Value.int IntKind.i64 0))) Option.none)]) (ACode.cond (Operand.tmp 55) (ACode.region [(AOper.mk (Option.some
  56) (AOp.mv (Operand.tmp 12)) Option.none), (AOper.mk (Option.some 57) (AOp.un UnOp.neg (Operand.tmp 56)) Option.none), (AOper.mk (Option.some 12) (AOp.mv (Operand.tmp 57))
  Option.none)]) ACode.skip)) (ACode.region [(AOper.mk (Option.some 58) (AOp.mv (Operand.tmp 9)) Option.none), (AOper.mk (Option.some 59) (AOp.mv (Operand.tmp 12)) Option.none),
  (AOper.mk (Option.some 60) (AOp.atSlice 1 (Operand.tmp 58) (Operand.tmp 59)) Option.none), (AOper.mk (Option.some 61) (AOp.load 1 Bool.false (Operand.tmp 60)) Option.none),
  (AOper.mk (Option.some 62) (AOp.mv (Operand.tmp 3)) Option.none), (AOper.mk (Option.some 63) (AOp.bin BinOp.xor (Operand.tmp 61) (Operand.tmp 62)) Option.none), (AOper.mk
  (Option.some 64) (AOp.atSlice 1 (Operand.tmp 58) (Operand.tmp 59)) Option.none), (AOper.mk Option.none (AOp.store 1 (Operand.tmp 64) (Operand.tmp 63)) Option.none)])))
  ACode.skip)) (ACode.seq (ACode.region [(AOper.mk (Option.some 66) (AOp.mv (Operand.tmp 9)) Option.none), (AOper.mk (Option.some 67) (AOp.call 16 [(Operand.tmp 66)]) Option.none),
  (AOper.mk (Option.some 65) (AOp.mv (Operand.tmp 67)) Option.none), (AOper.mk (Option.some 68) (AOp.extract (Operand.tmp 65) 0) Option.none), (AOper.mk (Option.some 69)
  (AOp.extract (Operand.tmp 65) 1) Option.none), (AOper.mk (Option.some 13) (AOp.mv (Operand.tmp 68)) Option.none), (AOper.mk (Option.some 14) (AOp.mv (Operand.tmp 69))
  Option.none)]) (ACode.seq (ACode.region [(AOper.mk (Option.some 71) (AOp.mv (Operand.tmp 9)) Option.none), (AOper.mk (Option.some 72) (AOp.call 17 [(Operand.tmp 71)])
  Option.none), (AOper.mk (Option.some 70) (AOp.mv (Operand.tmp 72)) Option.none), (AOper.mk (Option.some 73) (AOp.extract (Operand.tmp 70) 0) Option.none), (AOper.mk (Option.some
  74) (AOp.extract (Operand.tmp 70) 1) Option.none), (AOper.mk (Option.some 15) (AOp.mv (Operand.tmp 73)) Option.none), (AOper.mk (Option.some 16) (AOp.mv (Operand.tmp 74))
  Option.none)]) (ACode.seq (ACode.region [(AOper.mk (Option.some 76) (AOp.mv (Operand.tmp 9)) Option.none), (AOper.mk (Option.some 77) (AOp.call 15 [(Operand.tmp 76)])
  Option.none), (AOper.mk (Option.some 75) (AOp.mv (Operand.tmp 77)) Option.none), (AOper.mk (Option.some 78) (AOp.extract (Operand.tmp 75) 0) Option.none), (AOper.mk (Option.some
  79) (AOp.extract (Operand.tmp 75) 1) Option.none), (AOper.mk (Option.some 17) (AOp.mv (Operand.tmp 78)) Option.none), (AOper.mk (Option.some 18) (AOp.mv (Operand.tmp 79))
  Option.none)]) (ACode.seq (ACode.seq (ACode.region [(AOper.mk (Option.some 80) (AOp.mv (Operand.tmp 14)) Option.none), (AOper.mk (Option.some 81) (AOp.mv (Operand.tmp 16))
  Option.none), (AOper.mk (Option.some 82) (AOp.bin BinOp.neq (Operand.tmp 80) (Operand.tmp 81)) Option.none), (AOper.mk (Option.some 83) (AOp.mv (Operand.tmp 82)) Option.none),
  (AOper.mk (Option.some 84) (AOp.mv (Operand.tmp 13)) (Option.some (83, Bool.false))), (AOper.mk (Option.some 85) (AOp.textOf (Operand.tmp 84)) (Option.some (83, Bool.false))),
  (AOper.mk (Option.some 86) (AOp.mv (Operand.tmp 15)) (Option.some (83, Bool.false))), (AOper.mk (Option.some 87) (AOp.textOf (Operand.tmp 86)) (Option.some (83, Bool.false))),
  (AOper.mk (Option.some 88) (AOp.bin BinOp.neq (Operand.tmp 85) (Operand.tmp 87)) (Option.some (83, Bool.false))), (AOper.mk (Option.some 89) (AOp.pick (Operand.tmp 83)
  (Operand.const (Value.bool Bool.true)) (Operand.tmp 88)) Option.none), (AOper.mk (Option.some 90) (AOp.mv (Operand.tmp 89)) Option.none), (AOper.mk (Option.some 91) (AOp.mv
  (Operand.tmp 18)) (Option.some (90, Bool.false))), (AOper.mk (Option.some 92) (AOp.mv (Operand.tmp 16)) (Option.some (90, Bool.false))), (AOper.mk (Option.some 93) (AOp.bin
  BinOp.gtr (Operand.tmp 92) (Operand.const (Value.int IntKind.i64 0))) (Option.some (90, Bool.false))), (AOper.mk (Option.some 94) (AOp.mv (Operand.tmp 93)) (Option.some (90,
  Bool.false))), (AOper.mk (Option.some 95) (AOp.mv (Operand.tmp 16)) (Option.some (94, Bool.true))), (AOper.mk (Option.some 96) (AOp.mv (Operand.tmp 9)) (Option.some (94,
  Bool.true))), (AOper.mk (Option.some 97) (AOp.len (Operand.tmp 96)) (Option.some (94, Bool.true))), (AOper.mk (Option.some 98) (AOp.bin BinOp.eql (Operand.tmp 95) (Operand.tmp
  97)) (Option.some (94, Bool.true))), (AOper.mk (Option.some 99) (AOp.pick (Operand.tmp 94) (Operand.tmp 98) (Operand.const (Value.bool Bool.false))) (Option.some (90,
  Bool.false))), (AOper.mk (Option.some 100) (AOp.eqb Bool.true (Operand.tmp 91) (Operand.tmp 99)) (Option.some (90, Bool.false))), (AOper.mk (Option.some 101) (AOp.pick
  (Operand.tmp 90) (Operand.const (Value.bool Bool.true)) (Operand.tmp 100)) Option.none), (AOper.mk (Option.some 102) (AOp.mv (Operand.tmp 101)) Option.none), (AOper.mk
  (Option.some 103) (AOp.mv (Operand.tmp 18)) (Option.some (102, Bool.false))), (AOper.mk (Option.some 104) (AOp.mv (Operand.tmp 103)) (Option.some (102, Bool.false))), (AOper.mk
  (Option.some 105) (AOp.mv (Operand.tmp 17)) (Option.some (104, Bool.true))), (AOper.mk (Option.some 106) (AOp.textOf (Operand.tmp 105)) (Option.some (104, Bool.true))), (AOper.mk
  (Option.some 107) (AOp.mv (Operand.tmp 15)) (Option.some (104, Bool.true))), (AOper.mk (Option.some 108) (AOp.textOf (Operand.tmp 107)) (Option.some (104, Bool.true))), (AOper.mk
  (Option.some 109) (AOp.bin BinOp.neq (Operand.tmp 106) (Operand.tmp 108)) (Option.some (104, Bool.true))), (AOper.mk (Option.some 110) (AOp.pick (Operand.tmp 104) (Operand.tmp
  109) (Operand.const (Value.bool Bool.false))) (Option.some (102, Bool.false))), (AOper.mk (Option.some 111) (AOp.pick (Operand.tmp 102) (Operand.const (Value.bool Bool.true))
  (Operand.tmp 110)) Option.none), (AOper.mk (Option.some 112) (AOp.mv (Operand.tmp 111)) Option.none), (AOper.mk (Option.some 113) (AOp.mv (Operand.tmp 18)) (Option.some (112,
  Bool.false))), (AOper.mk (Option.some 114) (AOp.un UnOp.not (Operand.tmp 113)) (Option.some (112, Bool.false))), (AOper.mk (Option.some 115) (AOp.mv (Operand.tmp 114))
  (Option.some (112, Bool.false))), (AOper.mk (Option.some 116) (AOp.mv (Operand.tmp 17)) (Option.some (115, Bool.true))), (AOper.mk (Option.some 117) (AOp.len (Operand.tmp 116))
  (Option.some (115, Bool.true))), (AOper.mk (Option.some 118) (AOp.bin BinOp.gtr (Operand.tmp 117) (Operand.const (Value.int IntKind.i64 0))) (Option.some (115, Bool.true))),
  (AOper.mk (Option.some 119) (AOp.pick (Operand.tmp 115) (Operand.tmp 118) (Operand.const (Value.bool Bool.false))) (Option.some (112, Bool.false))), (AOper.mk (Option.some 120)
  (AOp.pick (Operand.tmp 112) (Operand.const (Value.bool Bool.true)) (Operand.tmp 119)) Option.none)]) (ACode.cond (Operand.tmp 120) (ACode.seq (ACode.region [(AOper.mk
  (Option.some 8) (AOp.mv (Operand.const (Value.bool Bool.false))) Option.none)]) ACode.ret) ACode.skip)) (ACode.seq (ACode.region [(AOper.mk (Option.some 122) (AOp.mv (Operand.tmp
  9)) Option.none), (AOper.mk (Option.some 123) (AOp.call 18 [(Operand.tmp 122)]) Option.none), (AOper.mk (Option.some 121) (AOp.mv (Operand.tmp 123)) Option.none), (AOper.mk
  (Option.some 124) (AOp.extract (Operand.tmp 121) 0) Option.none), (AOper.mk (Option.some 125) (AOp.extract (Operand.tmp 121) 1) Option.none), (AOper.mk (Option.some 19) (AOp.mv
  (Operand.tmp 124)) Option.none), (AOper.mk (Option.some 20) (AOp.mv (Operand.tmp 125)) Option.none)]) (ACode.seq (ACode.region [(AOper.mk (Option.some 21) (AOp.mv (Operand.const
  (Value.int IntKind.i64 0))) Option.none)]) (ACode.seq (ACode.seq (ACode.region [(AOper.mk (Option.some 126) (AOp.mv (Operand.tmp 19)) Option.none), (AOper.mk (Option.some 127)
  (AOp.len (Operand.tmp 126)) Option.none), (AOper.mk (Option.some 128) (AOp.mv (Operand.const (Value.int IntKind.i64 0))) Option.none)]) (ACode.block 2 (ACode.loop (ACode.seq
  (ACode.region [(AOper.mk (Option.some 129) (AOp.bin BinOp.lss (Operand.tmp 128) (Operand.tmp 127)) Option.none)]) (ACode.seq (ACode.cond (Operand.tmp 129) ACode.skip (ACode.exit
  2)) (ACode.seq (ACode.block 3 (ACode.seq (ACode.region [(AOper.mk (Option.some 130) (AOp.atSlice 1 (Operand.tmp 126) (Operand.tmp 128)) Option.none), (AOper.mk (Option.some 131)
  (AOp.load 1 Bool.false (Operand.tmp 130)) Option.none), (AOper.mk (Option.some 23) (AOp.mv (Operand.tmp 131)) Option.none)]) (ACode.seq (ACode.region [(AOper.mk (Option.some 133)
  (AOp.mv (Operand.tmp 9)) Option.none), (AOper.mk (Option.some 134) (AOp.mv (Operand.tmp 21)) Option.none), (AOper.mk (Option.some 135) (AOp.cutSlice 1 (Operand.tmp 133)
  (Option.some (Operand.tmp 134)) Option.none Option.none) Option.none), (AOper.mk (Option.some 136) (AOp.call 17 [(Operand.tmp 135)]) Option.none), (AOper.mk (Option.some 132)
  (AOp.mv (Operand.tmp 136)) Option.none), (AOper.mk (Option.some 137) (AOp.extract (Operand.tmp 132) 0) Option.none), (AOper.mk (Option.some 138) (AOp.extract (Operand.tmp 132) 1)
  Option.none), (AOper.mk (Option.some 24) (AOp.mv (Operand.tmp 137)) Option.none), (AOper.mk (Option.some 25) (AOp.mv (Operand.tmp 138)) Option.none)]) (ACode.seq (ACode.seq
  (ACode.region [(AOper.mk (Option.some 139) (AOp.mv (Operand.tmp 25)) Option.none), (AOper.mk (Option.some 140) (AOp.bin BinOp.eql (Operand.tmp 139) (Operand.const (Value.int
  IntKind.i64 0))) Option.none), (AOper.mk (Option.some 141) (AOp.mv (Operand.tmp 140)) Option.none), (AOper.mk (Option.some 142) (AOp.mv (Operand.tmp 24)) (Option.some (141,
  Bool.false))), (AOper.mk (Option.some 143) (AOp.textOf (Operand.tmp 142)) (Option.some (141, Bool.false))), (AOper.mk (Option.some 144) (AOp.mv (Operand.tmp 23)) (Option.some
  (141, Bool.false))), (AOper.mk (Option.some 145) (AOp.textOf (Operand.tmp 144)) (Option.some (141, Bool.false))), (AOper.mk (Option.some 146) (AOp.bin BinOp.neq (Operand.tmp 143)
  (Operand.tmp 145)) (Option.some (141, Bool.false))), (AOper.mk (Option.some 147) (AOp.pick (Operand.tmp 141) (Operand.const (Value.bool Bool.true)) (Operand.tmp 146))
  Option.none)]) (ACode.cond (Operand.tmp 147) (ACode.seq (ACode.region [(AOper.mk (Option.some 8) (AOp.mv (Operand.const (Value.bool Bool.false))) Option.none)]) ACode.ret)
  ACode.skip)) (ACode.region [(AOper.mk (Option.some 148) (AOp.mv (Operand.tmp 21)) Option.none), (AOper.mk (Option.some 149) (AOp.mv (Operand.tmp 25)) Option.none), (AOper.mk
  (Option.some 150) (AOp.bin BinOp.add (Operand.tmp 148) (Operand.tmp 149)) Option.none), (AOper.mk (Option.some 21) (AOp.mv (Operand.tmp 150)) Option.none)]))))) (ACode.region
  [(AOper.mk (Option.some 151) (AOp.bin BinOp.add (Operand.tmp 128) (Operand.const (Value.int IntKind.i64 1))) Option.none), (AOper.mk (Option.some 128) (AOp.mv (Operand.tmp 151))
  Option.none)]))))))) (ACode.seq (ACode.region [(AOper.mk (Option.some 153) (AOp.mv (Operand.tmp 9)) Option.none), (AOper.mk (Option.some 154) (AOp.mv (Operand.tmp 21))
  Option.none), (AOper.mk (Option.some 155) (AOp.cutSlice 1 (Operand.tmp 153) (Option.some (Operand.tmp 154)) Option.none Option.none) Option.none), (AOper.mk (Option.some 156)
  (AOp.call 17 [(Operand.tmp 155)]) Option.none), (AOper.mk (Option.some 152) (AOp.mv (Operand.tmp 156)) Option.none), (AOper.mk (Option.some 157) (AOp.extract (Operand.tmp 152) 0)
  Option.none), (AOper.mk (Option.some 158) (AOp.extract (Operand.tmp 152) 1) Option.none), (AOper.mk (Option.some 26) (AOp.mv (Operand.tmp 157)) Option.none), (AOper.mk
  (Option.some 27) (AOp.mv (Operand.tmp 158)) Option.none)]) (ACode.seq (ACode.region [(AOper.mk (Option.some 159) (AOp.mv (Operand.tmp 27)) Option.none), (AOper.mk (Option.some
  160) (AOp.bin BinOp.eql (Operand.tmp 159) (Operand.const (Value.int IntKind.i64 0))) Option.none), (AOper.mk (Option.some 161) (AOp.mv (Operand.tmp 160)) Option.none), (AOper.mk
  (Option.some 162) (AOp.mv (Operand.tmp 20)) (Option.some (161, Bool.true))), (AOper.mk (Option.some 163) (AOp.mv (Operand.tmp 21)) (Option.some (161, Bool.true))), (AOper.mk
  (Option.some 164) (AOp.bin BinOp.eql (Operand.tmp 162) (Operand.tmp 163)) (Option.some (161, Bool.true))), (AOper.mk (Option.some 165) (AOp.pick (Operand.tmp 161) (Operand.tmp
  164) (Operand.const (Value.bool Bool.false))) Option.none), (AOper.mk (Option.some 166) (AOp.mv (Operand.tmp 165)) Option.none), (AOper.mk (Option.some 167) (AOp.call 12 [])
  (Option.some (166, Bool.true))), (AOper.mk (Option.some 168) (AOp.pick (Operand.tmp 166) (Operand.tmp 167) (Operand.const (Value.bool Bool.false))) Option.none), (AOper.mk
  (Option.some 8) (AOp.mv (Operand.tmp 168)) Option.none)]) ACode.ret)))))))))))))) 169 [(ARes.tmp 8)])
def a8 : AFn :=
  (AFn.mk (ACode.seq (ACode.region [(AOper.mk (Option.some 4) (AOp.mv (Operand.const (Value.bool Bool.false))) Option.none)]) (ACode.seq (ACode.region [(AOper.mk (Option.some 5)
  (AOp.mv (Operand.const (Value.slice Option.none 0 0))) Option.none)]) (ACode.seq (ACode.region [(AOper.mk (Option.some 6) (AOp.mv (Operand.const (Value.slice Option.none 0 0)))
  Option.none)]) (ACode.seq (ACode.seq (ACode.region [(AOper.mk (Option.some 16) (AOp.mv (Operand.tmp 0)) Option.none), (AOper.mk (Option.some 17) (AOp.len (Operand.tmp 16))
  Option.none), (AOper.mk (Option.some 18) (AOp.mv (Operand.const (Value.int IntKind.i64 0))) Option.none)]) (ACode.block 0 (ACode.loop (ACode.seq (ACode.region [(AOper.mk
  (Option.some 19) (AOp.bin BinOp.lss (Operand.tmp 18) (Operand.tmp 17)) Option.none)]) (ACode.seq (ACode.cond (Operand.tmp 19) ACode.skip (ACode.exit 0)) (ACode.seq (ACode.block 1
  (ACode.seq (ACode.region [(AOper.mk (Option.some 20) (AOp.mv (Operand.tmp 18)) Option.none), (AOper.mk (Option.some 21) (AOp.atSlice 1 (Operand.tmp 16) (Operand.tmp 18))
  Option.none), (AOper.mk (Option.some 22) (AOp.load 1 Bool.false (Operand.tmp 21)) Option.none), (AOper.mk (Option.some 7) (AOp.mv (Operand.tmp 20)) Option.none), (AOper.mk
  (Option.some 8) (AOp.mv (Operand.tmp 22)) Option.none)]) (ACode.seq (ACode.region [(AOper.mk (Option.some 23) (AOp.mv (Operand.tmp 7)) Option.none), (AOper.mk (Option.some 24)
  (AOp.bin BinOp.lss (Operand.tmp 23) (Operand.const (Value.int IntKind.i64 5))) Option.none)]) (ACode.cond (Operand.tmp 24) (ACode.seq (ACode.region [(AOper.mk (Option.some 25)
  (AOp.mv (Operand.tmp 5)) Option.none), (AOper.mk (Option.some 26) (AOp.mv (Operand.tmp 8)) Option.none), (AOper.mk (Option.some 27) (AOp.call 9 [(Operand.tmp 26)]) Option.none),
  (AOper.mk (Option.some 28) (AOp.buildSlice 1 1 [(AV.slice Option.none 0 0 0 0)] [(0, (1, (Operand.tmp 27)))]) Option.none), (AOper.mk (Option.some 29) (AOp.call 13 [(Operand.tmp
  28)]) Option.none), (AOper.mk (Option.some 30) (AOp.append Bool.false 1 1 (Operand.tmp 25) (Operand.tmp 29)) Option.none), (AOper.mk (Option.some 5) (AOp.mv (Operand.tmp 30))
  Option.none)]) (ACode.region [(AOper.mk (Option.some 31) (AOp.mv (Operand.tmp 6)) Option.none), (AOper.mk (Option.some 32) (AOp.mv (Operand.tmp 5)) Option.none), (AOper.mk
  (Option.some 33) (AOp.len (Operand.tmp 32)) Option.none), (AOper.mk (Option.some 34) (AOp.buildSlice 1 1 [(AV.int IntKind.i64 0)] [(0, (1, (Operand.tmp 33)))]) Option.none),
  (AOper.mk (Option.some 35) (AOp.append Bool.false 1 8 (Operand.tmp 31) (Operand.tmp 34)) Option.none), (AOper.mk (Option.some 6) (AOp.mv (Operand.tmp 35)) Option.none)]))
  ACode.skip)))) (ACode.region [(AOper.mk (Option.some 36) (AOp.bin BinOp.add (Operand.tmp 18) (Operand.const (Value.int IntKind.i64 1))) Option.none), (AOper.mk (Option.some 18)
  (AOp.mv (Operand.tmp 36)) Option.none)]))))))) (ACode.seq (ACode.region [(AOper.mk (Option.some 37) (AOp.mv (Operand.tmp 1)) Option.none), (AOper.mk (Option.some 38) (AOp.mv
  (Operand.tmp 5)) Option.none), (AOper.mk (Option.some 39) (AOp.len (Operand.tmp 38)) Option.none), (AOper.mk (Option.some 40) (AOp.bin BinOp.add (Operand.tmp 39) (Operand.const
  (Value.int IntKind.i64 1))) Option.none), (AOper.mk (Option.some 41) (AOp.bin BinOp.rem (Operand.tmp 37) (Operand.tmp 40)) Option.none), (AOper.mk (Option.some 1) (AOp.mv
  (Operand.tmp 41)) Option.none)]) (ACode.seq (ACode.seq (ACode.region [(AOper.mk (Option.some 42) (AOp.mv (Operand.tmp 1)) Option.none), (AOper.mk (Option.some 43) (AOp.bin
  BinOp.lss (Operand.tmp 42) (Operand.const (Value.int IntKind.i64 0))) Option.none)]) (ACode.cond (Operand.tmp 43) (ACode.region [(AOper.mk (Option.some 44) (AOp.mv (Operand.tmp
  1)) Option.none), (AOper.mk (Option.some 45) (AOp.un UnOp.neg (Operand.tmp 44)) Option.none), (AOper.mk (Option.some 1) (AOp.mv (Operand.tmp 45)) Option.none)]) ACode.skip))
  (ACode.seq (ACode.region [(AOper.mk (Option.some 47) (AOp.mv (Operand.tmp 5)) Option.none), (AOper.mk (Option.some 48) (AOp.mv (Operand.tmp 1)) Option.none), (AOper.mk
  (Option.some 49) (AOp.cutSlice 1 (Operand.tmp 47) Option.none (Option.some (Operand.tmp 48)) Option.none) Option.none), (AOper.mk (Option.some 50) (AOp.call 18 [(Operand.tmp
  49)]) Option.none), (AOper.mk (Option.some 46) (AOp.mv (Operand.tmp 50)) Option.none), (AOper.mk (Option.some 51) (AOp.extract (Operand.tmp 46) 0) Option.none), (AOper.mk
  (Option.some 52) (AOp.extract (Operand.tmp 46) 1) Option.none), (AOper.mk (Option.some 9) (AOp.mv (Operand.tmp 51)) Option.none), (AOper.mk (Option.some 10) (AOp.mv (Operand.tmp
  52)) Option.none)]) (ACode.seq (ACode.region [(AOper.mk (Option.some 11) (AOp.mv (Operand.const (Value.int IntKind.i64 0))) Option.none), (AOper.mk (Option.some 12) (AOp.mv
  (Operand.const (Value.int IntKind.i64 0))) Option.none)]) (ACode.seq (ACode.seq (ACode.region [(AOper.mk (Option.some 53) (AOp.mv (Operand.tmp 6)) Option.none), (AOper.mk
  (Option.some 54) (AOp.len (Operand.tmp 53)) Option.none), (AOper.mk (Option.some 55) (AOp.mv (Operand.const (Value.int IntKind.i64 0))) Option.none)]) (ACode.block 2 (ACode.loop
  (ACode.seq (ACode.region [(AOper.mk (Option.some 56) (AOp.bin BinOp.lss (Operand.tmp 55) (Operand.tmp 54)) Option.none)]) (ACode.seq (ACode.cond (Operand.tmp 56) ACode.skip
  (ACode.exit 2)) (ACode.seq (ACode.block 3 (ACode.seq (ACode.region [(AOper.mk (Option.some 57) (AOp.atSlice 1 (Operand.tmp 53) (Operand.tmp 55)) Option.none), (AOper.mk
  (Option.some 58) (AOp.load 1 Bool.false (Operand.tmp 57)) Option.none), (AOper.mk (Option.some 14) (AOp.mv (Operand.tmp 58)) Option.none)]) (ACode.seq (ACode.region [(AOper.mk
  (Option.some 59) (AOp.mv (Operand.tmp 14)) Option.none), (AOper.mk (Option.some 60) (AOp.mv (Operand.tmp 1)) Option.none), (AOper.mk (Option.some 61) (AOp.bin BinOp.leq
  (Operand.tmp 59) (Operand.tmp 60)) Option.none)]) (ACode.cond (Operand.tmp 61) (ACode.seq (ACode.region [(AOper.mk (Option.some 62) (AOp.mv (Operand.tmp 11)) Option.none),
  (AOper.mk (Option.some 63) (AOp.bin BinOp.add (Operand.tmp 62) (Operand.const (Value.int IntKind.i64 1))) Option.none), (AOper.mk (Option.some 11) (AOp.mv (Operand.tmp 63))
  Option.none)]) (ACode.region [(AOper.mk (Option.some 64) (AOp.mv (Operand.tmp 14)) Option.none), (AOper.mk (Option.some 12) (AOp.mv (Operand.tmp 64)) Option.none)]))
  ACode.skip)))) (ACode.region [(AOper.mk (Option.some 65) (AOp.bin BinOp.add (Operand.tmp 55) (Operand.const (Value.int IntKind.i64 1))) Option.none), (AOper.mk (Option.some 55)
  (AOp.mv (Operand.tmp 65)) Option.none)]))))))) (ACode.seq (ACode.seq (ACode.region [(AOper.mk (Option.some 66) (AOp.mv (Operand.tmp 9)) Option.none), (AOper.mk (Option.some 67)
  (AOp.len (Operand.tmp 66)) Option.none), (AOper.mk (Option.some 68) (AOp.mv (Operand.tmp 11)) Option.none), (AOper.mk (Option.some 69) (AOp.bin BinOp.neq (Operand.tmp 67)
  (Operand.tmp 68)) Option.none), (AOper.mk (Option.some 70) (AOp.mv (Operand.tmp 69)) Option.none), (AOper.mk (Option.some 71) (AOp.mv (Operand.tmp 10)) (Option.some (70,
  Bool.false))), (AOper.mk (Option.some 72) (AOp.mv (Operand.tmp 12)) (Option.some (70, Bool.false))), (AOper.mk (Option.some 73) (AOp.bin BinOp.neq (Operand.tmp 71) (Operand.tmp
  72)) (Option.some (70, Bool.false))), (AOper.mk (Option.some 74) (AOp.pick (Operand.tmp 70) (Operand.const (Value.bool Bool.true)) (Operand.tmp 73)) Option.none)]) (ACode.cond
  (Operand.tmp 74) (ACode.seq (ACode.region [(AOper.mk (Option.some 4) (AOp.mv (Operand.const (Value.bool Bool.false))) Option.none)]) ACode.ret) ACode.skip)) (ACode.seq (ACode.seq
  (ACode.region [(AOper.mk (Option.some 75) (AOp.mv (Operand.tmp 9)) Option.none), (AOper.mk (Option.some 76) (AOp.len (Operand.tmp 75)) Option.none), (AOper.mk (Option.some 77)
  (AOp.mv (Operand.const (Value.int IntKind.i64 0))) Option.none)]) (ACode.block 4 (ACode.loop (ACode.seq (ACode.region [(AOper.mk (Option.some 78) (AOp.bin BinOp.lss (Operand.tmp
  77) (Operand.tmp 76)) Option.none)]) (ACode.seq (ACode.cond (Operand.tmp 78) ACode.skip (ACode.exit 4)) (ACode.seq (ACode.block 5 (ACode.seq (ACode.region [(AOper.mk (Option.some
  79) (AOp.mv (Operand.tmp 77)) Option.none), (AOper.mk (Option.some 15) (AOp.mv (Operand.tmp 79)) Option.none)]) (ACode.seq (ACode.draws [((AOper.mk (Option.some 80) (AOp.mv
  (Operand.tmp 9)) Option.none), (0, 12)), ((AOper.mk (Option.some 81) (AOp.mv (Operand.tmp 15)) Option.none), (0, 12)), ((AOper.mk (Option.some 82) (AOp.atSlice 1 (Operand.tmp 80)
  (Operand.tmp 81)) Option.none), (0, 12)), ((AOper.mk (Option.some 83) (AOp.load 1 Bool.false (Operand.tmp 82)) Option.none), (0, 12)), ((AOper.mk (Option.some 84) (AOp.textOf
  (Operand.tmp 83)) Option.none), (0, 12)), ((AOper.mk (Option.some 85) (AOp.mv (Operand.tmp 0)) Option.none), (0, 9)), ((AOper.mk (Option.some 86) (AOp.mv (Operand.tmp 15))
  Option.none), (0, 9)), ((AOper.mk (Option.some 87) (AOp.atSlice 1 (Operand.tmp 85) (Operand.tmp 86)) Option.none), (0, 9)), ((AOper.mk (Option.some 88) (AOp.load 1 Bool.false
  (Operand.tmp 87)) Option.none), (0, 9)), ((AOper.mk (Option.some 89) (AOp.call 9 [(Operand.tmp 88)]) Option.none), (0, 12)), ((AOper.mk (Option.some 90) (AOp.textOf (Operand.tmp
  89)) Option.none), (10, 12)), ((AOper.mk (Option.some 91) (AOp.bin BinOp.neq (Operand.tmp 84) (Operand.tmp 90)) Option.none), (10, 12))]) (ACode.cond (Operand.tmp 91) (ACode.seq
  (ACode.region [(AOper.mk (Option.some 4) (AOp.mv (Operand.const (Value.bool Bool.false))) Option.none)]) ACode.ret) ACode.skip)))) (ACode.region [(AOper.mk (Option.some 92)
  (AOp.bin BinOp.add (Operand.tmp 77) (Operand.const (Value.int IntKind.i64 1))) Option.none), (AOper.mk (Option.some 77) (AOp.mv (Operand.tmp 92)) Option.none)]))))))) (ACode.seq
  (ACode.region [(AOper.mk (Option.some 93) (AOp.call 12 []) Option.none), (AOper.mk (Option.some 4) (AOp.mv (Operand.tmp 93)) Option.none)]) ACode.ret)))))))))))) 94 [(ARes.tmp
  4)])
def a9 : AFn :=
  (AFn.mk (ACode.seq (ACode.region [(AOper.mk (Option.some 2) (AOp.mv (Operand.const (Value.slice Option.none 0 0))) Option.none)]) (ACode.seq (ACode.seq (ACode.region [(AOper.mk
  (Option.some 3) (AOp.mv (Operand.tmp 0)) Option.none), (AOper.mk (Option.some 4) (AOp.len (Operand.tmp 3)) Option.none), (AOper.mk (Option.some 5) (AOp.bin BinOp.gtr (Operand.tmp
  4) (Operand.const (Value.int IntKind.i64 200))) Option.none)]) (ACode.cond (Operand.tmp 5) (ACode.seq (ACode.region [(AOper.mk (Option.some 6) (AOp.mv (Operand.tmp 0))
  Option.none), (AOper.mk (Option.some 7) (AOp.cutSlice 1 (Operand.tmp 6) Option.none (Option.some (Operand.const (Value.int IntKind.i64 200))) Option.none) Option.none), (AOper.mk
  (Option.some 2) (AOp.mv (Operand.tmp 7)) Option.none)]) ACode.ret) ACode.skip)) (ACode.seq (ACode.region [(AOper.mk (Option.some 8) (AOp.mv (Operand.tmp 0)) Option.none),
  (AOper.mk (Option.some 2) (AOp.mv (Operand.tmp 8)) Option.none)]) ACode.ret))) 9 [(ARes.tmp 2)])
def a10 : AFn :=
  (AFn.mk (ACode.seq (ACode.region [(AOper.mk (Option.some 2) (AOp.mv (Operand.const (Value.int IntKind.u32 0))) Option.none)]) (ACode.seq (ACode.region [(AOper.mk (Option.some 3)
  (AOp.mv (Operand.const (Value.int IntKind.u32 4294967295))) Option.none)]) (ACode.seq (ACode.seq (ACode.region [(AOper.mk (Option.some 8) (AOp.mv (Operand.tmp 0)) Option.none),
  (AOper.mk (Option.some 9) (AOp.len (Operand.tmp 8)) Option.none), (AOper.mk (Option.some 10) (AOp.mv (Operand.const (Value.int IntKind.i64 0))) Option.none)]) (ACode.block 0
  (ACode.loop (ACode.seq (ACode.region [(AOper.mk (Option.some 11) (AOp.bin BinOp.lss (Operand.tmp 10) (Operand.tmp 9)) Option.none)]) (ACode.seq (ACode.cond (Operand.tmp 11)
  ACode.skip (ACode.exit 0)) (ACode.seq (ACode.block 1 (ACode.seq (ACode.region [(AOper.mk (Option.some 12) (AOp.atSlice 1 (Operand.tmp 8) (Operand.tmp 10)) Option.none), (AOper.mk
  (Option.some 13) (AOp.load 1 Bool.false (Operand.tmp 12)) Option.none), (AOper.mk (Option.some 5) (AOp.mv (Operand.tmp 13)) Option.none)]) (ACode.seq (ACode.region [(AOper.mk
  (Option.some 14) (AOp.mv (Operand.tmp 5)) Option.none), (AOper.mk (Option.some 15) (AOp.len (Operand.tmp 14)) Option.none), (AOper.mk (Option.some 16) (AOp.mv (Operand.const
  (Value.int IntKind.i64 0))) Option.none)]) (ACode.block 2 (ACode.loop (ACode.seq (ACode.region [(AOper.mk (Option.some 17) (AOp.bin BinOp.lss (Operand.tmp 16) (Operand.tmp 15))
  Option.none)]) (ACode.seq (ACode.cond (Operand.tmp 17) ACode.skip (ACode.exit 2)) (ACode.seq (ACode.block 3 (ACode.seq (ACode.region [(AOper.mk (Option.some 18) (AOp.atSlice 1
  (Operand.tmp 14) (Operand.tmp 16)) Option.none), (AOper.mk (Option.some 19) (AOp.load 1 Bool.false (Operand.tmp 18)) Option.none), (AOper.mk (Option.some 7) (AOp.mv (Operand.tmp
  19)) Option.none)]) (ACode.seq (ACode.region [(AOper.mk (Option.some 20) (AOp.mv (Operand.tmp 3)) Option.none), (AOper.mk (Option.some 21) (AOp.mv (Operand.tmp 7)) Option.none),
  (AOper.mk (Option.some 22) (AOp.conv IntKind.u32 (Operand.tmp 21)) Option.none), (AOper.mk (Option.some 23) (AOp.bin BinOp.xor (Operand.tmp 20) (Operand.tmp 22)) Option.none),
  (AOper.mk (Option.some 3) (AOp.mv (Operand.tmp 23)) Option.none)]) (ACode.seq (ACode.region [(AOper.mk (Option.some 24) (AOp.mv (Operand.const (Value.int IntKind.i64 0)))
  Option.none)]) (ACode.block 4 (ACode.loop (ACode.seq (ACode.region [(AOper.mk (Option.some 25) (AOp.bin BinOp.lss (Operand.tmp 24) (Operand.const (Value.int IntKind.i64 8)))
  Option.none)]) (ACode.seq (ACode.cond (Operand.tmp 25) ACode.skip (ACode.exit 4)) (ACode.seq (ACode.block 5 (ACode.seq (ACode.region [(AOper.mk (Option.some 26) (AOp.mv
  (Operand.tmp 3)) Option.none), (AOper.mk (Option.some 27) (AOp.bin BinOp.and (Operand.tmp 26) (Operand.const (Value.int IntKind.u32 1))) Option.none), (AOper.mk (Option.some 28)
  (AOp.bin BinOp.eql (Operand.tmp 27) (Operand.const (Value.int IntKind.u32 1))) Option.none)]) (ACode.cond (Operand.tmp 28) (ACode.region [(AOper.mk (Option.some 29) (AOp.mv
  (Operand.tmp 3)) Option.none), (AOper.mk (Option.some 30) (AOp.bin BinOp.shr (Operand.tmp 29) (Operand.const (Value.int IntKind.u64 1))) Option.none), (AOper.mk (Option.some 31)
  (AOp.bin BinOp.xor (Operand.tmp 30) (Operand.const (Value.int IntKind.u32 2197175160))) Option.none), (AOper.mk (Option.some 3) (AOp.mv (Operand.tmp 31)) Option.none)])
  (ACode.region [(AOper.mk (Option.some 32) (AOp.mv (Operand.tmp 3)) Option.none), (AOper.mk (Option.some 33) (AOp.bin BinOp.shr (Operand.tmp 32) (Operand.const (Value.int
  IntKind.u64 1))) Option.none), (AOper.mk (Option.some 3) (AOp.mv (Operand.tmp 33)) Option.none)])))) (ACode.region [(AOper.mk (Option.some 34) (AOp.bin BinOp.add (Operand.tmp 24)
  (Operand.const (Value.int IntKind.i64 1))) Option.none), (AOper.mk (Option.some 24) (AOp.mv (Operand.tmp 34)) Option.none)])))))))))) (ACode.region [(AOper.mk (Option.some 35)
  (AOp.bin BinOp.add (Operand.tmp 16) (Operand.const (Value.int IntKind.i64 1))) Option.none), (AOper.mk (Option.some 16) (AOp.mv (Operand.tmp 35)) Option.none)])))))))))
  (ACode.region [(AOper.mk (Option.some 36) (AOp.bin BinOp.add (Operand.tmp 10) (Operand.const (Value.int IntKind.i64 1))) Option.none), (AOper.mk (Option.some 10) (AOp.mv
  (Operand.tmp 36)) Option.none)]))))))) (ACode.seq (ACode.region [(AOper.mk (Option.some 37) (AOp.mv (Operand.tmp 3)) Option.none), (AOper.mk (Option.some 38) (AOp.un UnOp.xor
  (Operand.tmp 37)) Option.none), (AOper.mk (Option.some 2) (AOp.mv (Operand.tmp 38)) Option.none)]) ACode.ret)))) 39 [(ARes.tmp 2)])
def a11 : AFn :=
  (AFn.mk (ACode.seq (ACode.region [(AOper.mk (Option.some 2) (AOp.mv (Operand.const (Value.int IntKind.u32 0))) Option.none)]) (ACode.seq (ACode.region [(AOper.mk (Option.some 3)
  (AOp.mv (Operand.const (Value.int IntKind.u32 4294967295))) Option.none)]) (ACode.seq (ACode.seq (ACode.region [(AOper.mk (Option.some 4) (AOp.mv (Operand.const (Value.int
  IntKind.i64 0))) Option.none)]) (ACode.block 0 (ACode.loop (ACode.seq (ACode.seq (ACode.region [(AOper.mk (Option.some 7) (AOp.mv (Operand.tmp 4)) Option.none), (AOper.mk
  (Option.some 8) (AOp.mv (Operand.tmp 0)) Option.none), (AOper.mk (Option.some 9) (AOp.len (Operand.tmp 8)) Option.none), (AOper.mk (Option.some 10) (AOp.bin BinOp.mul
  (Operand.const (Value.int IntKind.i64 8)) (Operand.tmp 9)) Option.none), (AOper.mk (Option.some 11) (AOp.bin BinOp.lss (Operand.tmp 7) (Operand.tmp 10)) Option.none)])
  (ACode.cond (Operand.tmp 11) ACode.skip (ACode.exit 0))) (ACode.seq (ACode.block 1 (ACode.seq (ACode.region [(AOper.mk (Option.some 14) (AOp.mv (Operand.tmp 0)) Option.none),
  (AOper.mk (Option.some 15) (AOp.mv (Operand.tmp 4)) Option.none), (AOper.mk (Option.some 16) (AOp.bin BinOp.quo (Operand.tmp 15) (Operand.const (Value.int IntKind.i64 8)))
  Option.none), (AOper.mk (Option.some 17) (AOp.atSlice 1 (Operand.tmp 14) (Operand.tmp 16)) Option.none), (AOper.mk (Option.some 18) (AOp.load 1 Bool.false (Operand.tmp 17))
  Option.none), (AOper.mk (Option.some 19) (AOp.mv (Operand.tmp 4)) Option.none), (AOper.mk (Option.some 20) (AOp.bin BinOp.rem (Operand.tmp 19) (Operand.const (Value.int
  IntKind.i64 8))) Option.none), (AOper.mk (Option.some 21) (AOp.conv IntKind.u64 (Operand.tmp 20)) Option.none), (AOper.mk (Option.some 22) (AOp.bin BinOp.shr (Operand.tmp 18)
  (Operand.tmp 21)) Option.none), (AOper.mk (Option.some 23) (AOp.conv IntKind.u32 (Operand.tmp 22)) Option.none), (AOper.mk (Option.some 24) (AOp.bin BinOp.rem (Operand.tmp 23)
  (Operand.const (Value.int IntKind.u32 2))) Option.none), (AOper.mk (Option.some 5) (AOp.mv (Operand.tmp 24)) Option.none)]) (ACode.seq (ACode.region [(AOper.mk (Option.some 25)
  (AOp.mv (Operand.tmp 3)) Option.none), (AOper.mk (Option.some 26) (AOp.bin BinOp.rem (Operand.tmp 25) (Operand.const (Value.int IntKind.u32 2))) Option.none), (AOper.mk
  (Option.some 6) (AOp.mv (Operand.tmp 26)) Option.none)]) (ACode.seq (ACode.region [(AOper.mk (Option.some 27) (AOp.mv (Operand.tmp 3)) Option.none), (AOper.mk (Option.some 28)
  (AOp.bin BinOp.quo (Operand.tmp 27) (Operand.const (Value.int IntKind.u32 2))) Option.none), (AOper.mk (Option.some 3) (AOp.mv (Operand.tmp 28)) Option.none)]) (ACode.seq
  (ACode.region [(AOper.mk (Option.some 29) (AOp.mv (Operand.tmp 5)) Option.none), (AOper.mk (Option.some 30) (AOp.mv (Operand.tmp 6)) Option.none), (AOper.mk (Option.some 31)
  (AOp.bin BinOp.neq (Operand.tmp 29) (Operand.tmp 30)) Option.none)]) (ACode.cond (Operand.tmp 31) (ACode.region [(AOper.mk (Option.some 32) (AOp.mv (Operand.tmp 3)) Option.none),
  (AOper.mk (Option.some 33) (AOp.bin BinOp.xor (Operand.tmp 32) (Operand.const (Value.int IntKind.u32 2197175160))) Option.none), (AOper.mk (Option.some 3) (AOp.mv (Operand.tmp
  33)) Option.none)]) ACode.skip)))))) (ACode.region [(AOper.mk (Option.some 12) (AOp.mv (Operand.tmp 4)) Option.none), (AOper.mk (Option.some 13) (AOp.bin BinOp.add (Operand.tmp
  12) (Operand.const (Value.int IntKind.i64 1))) Option.none), (AOper.mk (Option.some 4) (AOp.mv (Operand.tmp 13)) Option.none)])))))) (ACode.seq (ACode.region [(AOper.mk
  (Option.some 34) (AOp.mv (Operand.tmp 3)) Option.none), (AOper.mk (Option.some 35) (AOp.bin BinOp.sub (Operand.const (Value.int IntKind.u32 4294967295)) (Operand.tmp 34))
  Option.none), (AOper.mk (Option.some 2) (AOp.mv (Operand.tmp 35)) Option.none)]) ACode.ret)))) 36 [(ARes.tmp 2)])
def a12 : AFn :=
  (AFn.mk (ACode.seq (ACode.region [(AOper.mk (Option.some 0) (AOp.mv (Operand.const (Value.bool Bool.false))) Option.none)]) (ACode.seq (ACode.region [(AOper.mk (Option.some 4)
  (AOp.buildSlice 1 1 [(AV.int IntKind.u8 0)] [(0, (1, (Operand.const (Value.int IntKind.u8 97))))]) Option.none), (AOper.mk (Option.some 5) (AOp.mark (Operand.tmp 4))
  Option.none), (AOper.mk (Option.some 6) (AOp.buildSlice 1 1 [(AV.slice Option.none 0 0 0 0)] [(0, (1, (Operand.tmp 5)))]) Option.none), (AOper.mk (Option.some 7) (AOp.call 13
  [(Operand.tmp 6)]) Option.none), (AOper.mk (Option.some 1) (AOp.mv (Operand.tmp 7)) Option.none)]) (ACode.seq (ACode.region [(AOper.mk (Option.some 9) (AOp.mv (Operand.tmp 1))
  Option.none), (AOper.mk (Option.some 10) (AOp.call 15 [(Operand.tmp 9)]) Option.none), (AOper.mk (Option.some 8) (AOp.mv (Operand.tmp 10)) Option.none), (AOper.mk (Option.some
  11) (AOp.extract (Operand.tmp 8) 0) Option.none), (AOper.mk (Option.some 12) (AOp.extract (Operand.tmp 8) 1) Option.none), (AOper.mk (Option.some 2) (AOp.mv (Operand.tmp 11))
  Option.none), (AOper.mk (Option.some 3) (AOp.mv (Operand.tmp 12)) Option.none)]) (ACode.seq (ACode.region [(AOper.mk (Option.some 13) (AOp.buildSlice 9 1 [(AV.int IntKind.u8 0),
  (AV.int IntKind.u8 0), (AV.int IntKind.u8 0), (AV.int IntKind.u8 0), (AV.int IntKind.u8 0), (AV.int IntKind.u8 0), (AV.int IntKind.u8 0), (AV.int IntKind.u8 0), (AV.int
  IntKind.u8 0)] [(0, (1, (Operand.const (Value.int IntKind.u8 49)))), (1, (1, (Operand.const (Value.int IntKind.u8 50)))), (2, (1, (Operand.const (Value.int IntKind.u8 51)))), (3,
  (1, (Operand.const (Value.int IntKind.u8 52)))), (4, (1, (Operand.const (Value.int IntKind.u8 53)))), (5, (1, (Operand.const (Value.int IntKind.u8 54)))), (6, (1, (Operand.const
  (Value.int IntKind.u8 55)))), (7, (1, (Operand.const (Value.int IntKind.u8 56)))), (8, (1, (Operand.const (Value.int IntKind.u8 57))))]) Option.none), (AOper.mk (Option.some 14)
  (AOp.mark (Operand.tmp 13)) Option.none), (AOper.mk (Option.some 15) (AOp.buildSlice 1 1 [(AV.slice Option.none 0 0 0 0)] [(0, (1, (Operand.tmp 14)))]) Option.none), (AOper.mk
  (Option.some 16) (AOp.call 10 [(Operand.tmp 15)]) Option.none), (AOper.mk (Option.some 17) (AOp.bin BinOp.eql (Operand.tmp 16) (Operand.const (Value.int IntKind.u32 3808858755)))
  Option.none), (AOper.mk (Option.some 18) (AOp.mv (Operand.tmp 17)) Option.none), (AOper.mk (Option.some 19) (AOp.mv (Operand.tmp 1)) (Option.some (18, Bool.true))), (AOper.mk
  (Option.some 20) (AOp.len (Operand.tmp 19)) (Option.some (18, Bool.true))), (AOper.mk (Option.some 21) (AOp.bin BinOp.eql (Operand.tmp 20) (Operand.const (Value.int IntKind.i64
  8))) (Option.some (18, Bool.true))), (AOper.mk (Option.some 22) (AOp.pick (Operand.tmp 18) (Operand.tmp 21) (Operand.const (Value.bool Bool.false))) Option.none), (AOper.mk
  (Option.some 23) (AOp.mv (Operand.tmp 22)) Option.none), (AOper.mk (Option.some 24) (AOp.mv (Operand.tmp 1)) (Option.some (23, Bool.true))), (AOper.mk (Option.some 25)
  (AOp.atSlice 1 (Operand.tmp 24) (Operand.const (Value.int IntKind.i64 0))) (Option.some (23, Bool.true))), (AOper.mk (Option.some 26) (AOp.load 1 Bool.false (Operand.tmp 25))
  (Option.some (23, Bool.true))), (AOper.mk (Option.some 27) (AOp.bin BinOp.eql (Operand.tmp 26) (Operand.const (Value.int IntKind.u8 167))) (Option.some (23, Bool.true))),
  (AOper.mk (Option.some 28) (AOp.pick (Operand.tmp 23) (Operand.tmp 27) (Operand.const (Value.bool Bool.false))) Option.none), (AOper.mk (Option.some 29) (AOp.mv (Operand.tmp 28))
  Option.none), (AOper.mk (Option.some 30) (AOp.mv (Operand.tmp 1)) (Option.some (29, Bool.true))), (AOper.mk (Option.some 31) (AOp.atSlice 1 (Operand.tmp 30) (Operand.const
  (Value.int IntKind.i64 2))) (Option.some (29, Bool.true))), (AOper.mk (Option.some 32) (AOp.load 1 Bool.false (Operand.tmp 31)) (Option.some (29, Bool.true))), (AOper.mk
  (Option.some 33) (AOp.bin BinOp.eql (Operand.tmp 32) (Operand.const (Value.int IntKind.u8 1))) (Option.some (29, Bool.true))), (AOper.mk (Option.some 34) (AOp.pick (Operand.tmp
  29) (Operand.tmp 33) (Operand.const (Value.bool Bool.false))) Option.none), (AOper.mk (Option.some 35) (AOp.mv (Operand.tmp 34)) Option.none), (AOper.mk (Option.some 36) (AOp.mv
  (Operand.tmp 3)) (Option.some (35, Bool.true))), (AOper.mk (Option.some 37) (AOp.pick (Operand.tmp 35) (Operand.tmp 36) (Operand.const (Value.bool Bool.false))) Option.none),
  (AOper.mk (Option.some 38) (AOp.mv (Operand.tmp 37)) Option.none), (AOper.mk (Option.some 39) (AOp.mv (Operand.tmp 2)) (Option.some (38, Bool.true))), (AOper.mk (Option.some 40)
  (AOp.textOf (Operand.tmp 39)) (Option.some (38, Bool.true))), (AOper.mk (Option.some 41) (AOp.bin BinOp.eql (Operand.tmp 40) (Operand.const (Value.string (ByteArray.mk #[97]))))
  (Option.some (38, Bool.true))), (AOper.mk (Option.some 42) (AOp.pick (Operand.tmp 38) (Operand.tmp 41) (Operand.const (Value.bool Bool.false))) Option.none), (AOper.mk
  (Option.some 0) (AOp.mv (Operand.tmp 42)) Option.none)]) ACode.ret)))) 43 [(ARes.tmp 0)])
def a13 : AFn :=
  (AFn.mk (ACode.seq (ACode.region [(AOper.mk (Option.some 2) (AOp.mv (Operand.const (Value.slice Option.none 0 0))) Option.none)]) (ACode.seq (ACode.region [(AOper.mk (Option.some
  3) (AOp.mv (Operand.const (Value.int IntKind.i64 0))) Option.none)]) (ACode.seq (ACode.seq (ACode.region [(AOper.mk (Option.some 10) (AOp.mv (Operand.tmp 0)) Option.none),
  (AOper.mk (Option.some 11) (AOp.len (Operand.tmp 10)) Option.none), (AOper.mk (Option.some 12) (AOp.mv (Operand.const (Value.int IntKind.i64 0))) Option.none)]) (ACode.block 0
  (ACode.loop (ACode.seq (ACode.region [(AOper.mk (Option.some 13) (AOp.bin BinOp.lss (Operand.tmp 12) (Operand.tmp 11)) Option.none)]) (ACode.seq (ACode.cond (Operand.tmp 13)
  ACode.skip (ACode.exit 0)) (ACode.seq (ACode.block 1 (ACode.seq (ACode.region [(AOper.mk (Option.some 14) (AOp.atSlice 1 (Operand.tmp 10) (Operand.tmp 12)) Option.none),
  (AOper.mk (Option.some 15) (AOp.load 1 Bool.false (Operand.tmp 14)) Option.none), (AOper.mk (Option.some 5) (AOp.mv (Operand.tmp 15)) Option.none)]) (ACode.seq (ACode.seq
  (ACode.region [(AOper.mk (Option.some 16) (AOp.mv (Operand.tmp 5)) Option.none), (AOper.mk (Option.some 17) (AOp.len (Operand.tmp 16)) Option.none), (AOper.mk (Option.some 18)
  (AOp.mv (Operand.tmp 3)) Option.none), (AOper.mk (Option.some 19) (AOp.bin BinOp.sub (Operand.const (Value.int IntKind.i64 16384)) (Operand.tmp 18)) Option.none), (AOper.mk
  (Option.some 20) (AOp.bin BinOp.gtr (Operand.tmp 17) (Operand.tmp 19)) Option.none)]) (ACode.cond (Operand.tmp 20) (ACode.seq (ACode.region [(AOper.mk (Option.some 2) (AOp.mv
  (Operand.const (Value.slice Option.none 0 0))) Option.none)]) ACode.ret) ACode.skip)) (ACode.region [(AOper.mk (Option.some 21) (AOp.mv (Operand.tmp 3)) Option.none), (AOper.mk
  (Option.some 22) (AOp.mv (Operand.tmp 5)) Option.none), (AOper.mk (Option.some 23) (AOp.len (Operand.tmp 22)) Option.none), (AOper.mk (Option.some 24) (AOp.bin BinOp.add
  (Operand.tmp 21) (Operand.tmp 23)) Option.none), (AOper.mk (Option.some 3) (AOp.mv (Operand.tmp 24)) Option.none)])))) (ACode.region [(AOper.mk (Option.some 25) (AOp.bin
  BinOp.add (Operand.tmp 12) (Operand.const (Value.int IntKind.i64 1))) Option.none), (AOper.mk (Option.some 12) (AOp.mv (Operand.tmp 25)) Option.none)]))))))) (ACode.seq
  (ACode.region [(AOper.mk (Option.some 26) (AOp.mv (Operand.tmp 3)) Option.none), (AOper.mk (Option.some 27) (AOp.bin BinOp.add (Operand.tmp 26) (Operand.const (Value.int
  IntKind.i64 3))) Option.none), (AOper.mk (Option.some 28) (AOp.bin BinOp.add (Operand.tmp 27) (Operand.const (Value.int IntKind.i64 4))) Option.none), (AOper.mk (Option.some 29)
  (AOp.makeSlice 1 1 [(AV.int IntKind.u8 0)] (Operand.const (Value.int IntKind.i64 0)) (Operand.tmp 28)) Option.none), (AOper.mk (Option.some 30) (AOp.mv (Operand.tmp 3))
  Option.none), (AOper.mk (Option.some 31) (AOp.bin BinOp.shr (Operand.tmp 30) (Operand.const (Value.int IntKind.u64 8))) Option.none), (AOper.mk (Option.some 32) (AOp.conv
  IntKind.u8 (Operand.tmp 31)) Option.none), (AOper.mk (Option.some 33) (AOp.mv (Operand.tmp 3)) Option.none), (AOper.mk (Option.some 34) (AOp.conv IntKind.u8 (Operand.tmp 33))
  Option.none), (AOper.mk (Option.some 35) (AOp.buildSlice 3 1 [(AV.int IntKind.u8 0), (AV.int IntKind.u8 0), (AV.int IntKind.u8 0)] [(0, (1, (Operand.const (Value.int IntKind.u8
  167)))), (1, (1, (Operand.tmp 32))), (2, (1, (Operand.tmp 34)))]) Option.none), (AOper.mk (Option.some 36) (AOp.append Bool.false 1 1 (Operand.tmp 29) (Operand.tmp 35))
  Option.none), (AOper.mk (Option.some 6) (AOp.mv (Operand.tmp 36)) Option.none)]) (ACode.seq (ACode.seq (ACode.region [(AOper.mk (Option.some 37) (AOp.mv (Operand.tmp 0))
  Option.none), (AOper.mk (Option.some 38) (AOp.len (Operand.tmp 37)) Option.none), (AOper.mk (Option.some 39) (AOp.mv (Operand.const (Value.int IntKind.i64 0))) Option.none)])
  (ACode.block 2 (ACode.loop (ACode.seq (ACode.region [(AOper.mk (Option.some 40) (AOp.bin BinOp.lss (Operand.tmp 39) (Operand.tmp 38)) Option.none)]) (ACode.seq (ACode.cond
  (Operand.tmp 40) ACode.skip (ACode.exit 2)) (ACode.seq (ACode.block 3 (ACode.seq (ACode.region [(AOper.mk (Option.some 41) (AOp.atSlice 1 (Operand.tmp 37) (Operand.tmp 39))
  Option.none), (AOper.mk (Option.some 42) (AOp.load 1 Bool.false (Operand.tmp 41)) Option.none), (AOper.mk (Option.some 8) (AOp.mv (Operand.tmp 42)) Option.none)]) (ACode.region
  [(AOper.mk (Option.some 43) (AOp.mv (Operand.tmp 6)) Option.none), (AOper.mk (Option.some 44) (AOp.mv (Operand.tmp 8)) Option.none), (AOper.mk (Option.some 45) (AOp.append
  Bool.false 1 1 (Operand.tmp 43) (Operand.tmp 44)) Option.none), (AOper.mk (Option.some 6) (AOp.mv (Operand.tmp 45)) Option.none)]))) (ACode.region [(AOper.mk (Option.some 46)
  (AOp.bin BinOp.add (Operand.tmp 39) (Operand.const (Value.int IntKind.i64 1))) Option.none), (AOper.mk (Option.some 39) (AOp.mv (Operand.tmp 46)) Option.none)]))))))) (ACode.seq
  (ACode.region [(AOper.mk (Option.some 47) (AOp.mv (Operand.tmp 6)) Option.none), (AOper.mk (Option.some 48) (AOp.buildSlice 1 1 [(AV.slice Option.none 0 0 0 0)] [(0, (1,
  (Operand.tmp 47)))]) Option.none), (AOper.mk (Option.some 49) (AOp.call 10 [(Operand.tmp 48)]) Option.none), (AOper.mk (Option.some 9) (AOp.mv (Operand.tmp 49)) Option.none)])
  (ACode.seq (ACode.region [(AOper.mk (Option.some 50) (AOp.mv (Operand.tmp 6)) Option.none), (AOper.mk (Option.some 51) (AOp.mv (Operand.tmp 9)) Option.none), (AOper.mk
  (Option.some 52) (AOp.bin BinOp.shr (Operand.tmp 51) (Operand.const (Value.int IntKind.u64 24))) Option.none), (AOper.mk (Option.some 53) (AOp.conv IntKind.u8 (Operand.tmp 52))
  Option.none), (AOper.mk (Option.some 54) (AOp.mv (Operand.tmp 9)) Option.none), (AOper.mk (Option.some 55) (AOp.bin BinOp.shr (Operand.tmp 54) (Operand.const (Value.int
  IntKind.u64 16))) Option.none), (AOper.mk (Option.some 56) (AOp.conv IntKind.u8 (Operand.tmp 55)) Option.none), (AOper.mk (Option.some 57) (AOp.mv (Operand.tmp 9)) Option.none),
  (AOper.mk (Option.some 58) (AOp.bin BinOp.shr (Operand.tmp 57) (Operand.const (Value.int IntKind.u64 8))) Option.none), (AOper.mk (Option.some 59) (AOp.conv IntKind.u8
  (Operand.tmp 58)) Option.none), (AOper.mk (Option.some 60) (AOp.mv (Operand.tmp 9)) Option.none), (AOper.mk (Option.some 61) (AOp.conv IntKind.u8 (Operand.tmp 60)) Option.none),
  (AOper.mk (Option.some 62) (AOp.buildSlice 4 1 [(AV.int IntKind.u8 0), (AV.int IntKind.u8 0), (AV.int IntKind.u8 0), (AV.int IntKind.u8 0)] [(0, (1, (Operand.tmp 53))), (1, (1,
  (Operand.tmp 56))), (2, (1, (Operand.tmp 59))), (3, (1, (Operand.tmp 61)))]) Option.none), (AOper.mk (Option.some 63) (AOp.append Bool.false 1 1 (Operand.tmp 50) (Operand.tmp
  62)) Option.none), (AOper.mk (Option.some 2) (AOp.mv (Operand.tmp 63)) Option.none)]) ACode.ret))))))) 64 [(ARes.tmp 2)])
def a14 : AFn :=
  (AFn.mk (ACode.seq (ACode.region [(AOper.mk (Option.some 2) (AOp.mv (Operand.const (Value.slice Option.none 0 0))) Option.none)]) (ACode.seq (ACode.seq (ACode.region [(AOper.mk
  (Option.some 5) (AOp.mv (Operand.tmp 0)) Option.none), (AOper.mk (Option.some 6) (AOp.len (Operand.tmp 5)) Option.none), (AOper.mk (Option.some 7) (AOp.bin BinOp.gtr (Operand.tmp
  6) (Operand.const (Value.int IntKind.i64 16384))) Option.none)]) (ACode.cond (Operand.tmp 7) (ACode.seq (ACode.region [(AOper.mk (Option.some 2) (AOp.mv (Operand.const
  (Value.slice Option.none 0 0))) Option.none)]) ACode.ret) ACode.skip)) (ACode.seq (ACode.region [(AOper.mk (Option.some 8) (AOp.mv (Operand.tmp 0)) Option.none), (AOper.mk
  (Option.some 9) (AOp.len (Operand.tmp 8)) Option.none), (AOper.mk (Option.some 10) (AOp.bin BinOp.quo (Operand.tmp 9) (Operand.const (Value.int IntKind.i64 256))) Option.none),
  (AOper.mk (Option.some 11) (AOp.conv IntKind.u8 (Operand.tmp 10)) Option.none), (AOper.mk (Option.some 12) (AOp.mv (Operand.tmp 0)) Option.none), (AOper.mk (Option.some 13)
  (AOp.len (Operand.tmp 12)) Option.none), (AOper.mk (Option.some 14) (AOp.bin BinOp.rem (Operand.tmp 13) (Operand.const (Value.int IntKind.i64 256))) Option.none), (AOper.mk
  (Option.some 15) (AOp.conv IntKind.u8 (Operand.tmp 14)) Option.none), (AOper.mk (Option.some 16) (AOp.buildSlice 3 1 [(AV.int IntKind.u8 0), (AV.int IntKind.u8 0), (AV.int
  IntKind.u8 0)] [(0, (1, (Operand.const (Value.int IntKind.u8 167)))), (1, (1, (Operand.tmp 11))), (2, (1, (Operand.tmp 15)))]) Option.none), (AOper.mk (Option.some 3) (AOp.mv
  (Operand.tmp 16)) Option.none)]) (ACode.seq (ACode.region [(AOper.mk (Option.some 17) (AOp.mv (Operand.tmp 3)) Option.none), (AOper.mk (Option.some 18) (AOp.mv (Operand.tmp 0))
  Option.none), (AOper.mk (Option.some 19) (AOp.append Bool.false 1 1 (Operand.tmp 17) (Operand.tmp 18)) Option.none), (AOper.mk (Option.some 3) (AOp.mv (Operand.tmp 19))
  Option.none)]) (ACode.seq (ACode.region [(AOper.mk (Option.some 20) (AOp.mv (Operand.tmp 3)) Option.none), (AOper.mk (Option.some 21) (AOp.call 11 [(Operand.tmp 20)])
  Option.none), (AOper.mk (Option.some 4) (AOp.mv (Operand.tmp 21)) Option.none)]) (ACode.seq (ACode.region [(AOper.mk (Option.some 22) (AOp.mv (Operand.tmp 3)) Option.none),
  (AOper.mk (Option.some 23) (AOp.mv (Operand.tmp 4)) Option.none), (AOper.mk (Option.some 24) (AOp.bin BinOp.quo (Operand.tmp 23) (Operand.const (Value.int IntKind.u32 16777216)))
  Option.none), (AOper.mk (Option.some 25) (AOp.conv IntKind.u8 (Operand.tmp 24)) Option.none), (AOper.mk (Option.some 26) (AOp.mv (Operand.tmp 4)) Option.none), (AOper.mk
  (Option.some 27) (AOp.bin BinOp.quo (Operand.tmp 26) (Operand.const (Value.int IntKind.u32 65536))) Option.none), (AOper.mk (Option.some 28) (AOp.conv IntKind.u8 (Operand.tmp
  27)) Option.none), (AOper.mk (Option.some 29) (AOp.mv (Operand.tmp 4)) Option.none), (AOper.mk (Option.some 30) (AOp.bin BinOp.quo (Operand.tmp 29) (Operand.const (Value.int
  IntKind.u32 256))) Option.none), (AOper.mk (Option.some 31) (AOp.conv IntKind.u8 (Operand.tmp 30)) Option.none), (AOper.mk (Option.some 32) (AOp.mv (Operand.tmp 4)) Option.none),
  (AOper.mk (Option.some 33) (AOp.conv IntKind.u8 (Operand.tmp 32)) Option.none), (AOper.mk (Option.some 34) (AOp.buildSlice 4 1 [(AV.int IntKind.u8 0), (AV.int IntKind.u8 0),
  (AV.int IntKind.u8 0), (AV.int IntKind.u8 0)] [(0, (1, (Operand.tmp 25))), (1, (1, (Operand.tmp 28))), (2, (1, (Operand.tmp 31))), (3, (1, (Operand.tmp 33)))]) Option.none),
  (AOper.mk (Option.some 35) (AOp.append Bool.false 1 1 (Operand.tmp 22) (Operand.tmp 34)) Option.none), (AOper.mk (Option.some 2) (AOp.mv (Operand.tmp 35)) Option.none)])
  ACode.ret)))))) 36 [(ARes.tmp 2)])
def a15 : AFn :=
  (AFn.mk (ACode.seq (ACode.region [(AOper.mk (Option.some 2) (AOp.mv (Operand.const (Value.slice Option.none 0 0))) Option.none), (AOper.mk (Option.some 3) (AOp.mv (Operand.const
  (Value.bool Bool.false))) Option.none)]) (ACode.seq (ACode.region [(AOper.mk (Option.some 7) (AOp.mv (Operand.tmp 0)) Option.none), (AOper.mk (Option.some 8) (AOp.call 16
  [(Operand.tmp 7)]) Option.none), (AOper.mk (Option.some 6) (AOp.mv (Operand.tmp 8)) Option.none), (AOper.mk (Option.some 9) (AOp.extract (Operand.tmp 6) 0) Option.none),
  (AOper.mk (Option.some 10) (AOp.extract (Operand.tmp 6) 1) Option.none), (AOper.mk (Option.some 4) (AOp.mv (Operand.tmp 9)) Option.none), (AOper.mk (Option.some 5) (AOp.mv
  (Operand.tmp 10)) Option.none)]) (ACode.seq (ACode.seq (ACode.region [(AOper.mk (Option.some 11) (AOp.mv (Operand.tmp 5)) Option.none), (AOper.mk (Option.some 12) (AOp.bin
  BinOp.eql (Operand.tmp 11) (Operand.const (Value.int IntKind.i64 0))) Option.none), (AOper.mk (Option.some 13) (AOp.mv (Operand.tmp 12)) Option.none), (AOper.mk (Option.some 14)
  (AOp.mv (Operand.tmp 5)) (Option.some (13, Bool.false))), (AOper.mk (Option.some 15) (AOp.mv (Operand.tmp 0)) (Option.some (13, Bool.false))), (AOper.mk (Option.some 16) (AOp.len
  (Operand.tmp 15)) (Option.some (13, Bool.false))), (AOper.mk (Option.some 17) (AOp.bin BinOp.neq (Operand.tmp 14) (Operand.tmp 16)) (Option.some (13, Bool.false))), (AOper.mk
  (Option.some 18) (AOp.pick (Operand.tmp 13) (Operand.const (Value.bool Bool.true)) (Operand.tmp 17)) Option.none)]) (ACode.cond (Operand.tmp 18) (ACode.seq (ACode.region
  [(AOper.mk (Option.some 2) (AOp.mv (Operand.const (Value.slice Option.none 0 0))) Option.none), (AOper.mk (Option.some 3) (AOp.mv (Operand.const (Value.bool Bool.false)))
  Option.none)]) ACode.ret) ACode.skip)) (ACode.seq (ACode.region [(AOper.mk (Option.some 19) (AOp.mv (Operand.tmp 4)) Option.none), (AOper.mk (Option.some 2) (AOp.mv (Operand.tmp
  19)) Option.none), (AOper.mk (Option.some 3) (AOp.mv (Operand.const (Value.bool Bool.true))) Option.none)]) ACode.ret)))) 20 [(ARes.tmp 2), (ARes.tmp 3)])
def a16 : AFn :=
  (AFn.mk (ACode.seq (ACode.region [(AOper.mk (Option.some 2) (AOp.mv (Operand.const (Value.slice Option.none 0 0))) Option.none), (AOper.mk (Option.some 3) (AOp.mv (Operand.const
  (Value.int IntKind.i64 0))) Option.none)]) (ACode.seq (ACode.seq (ACode.region [(AOper.mk (Option.some 7) (AOp.mv (Operand.tmp 0)) Option.none), (AOper.mk (Option.some 8)
  (AOp.len (Operand.tmp 7)) Option.none), (AOper.mk (Option.some 9) (AOp.bin BinOp.lss (Operand.tmp 8) (Operand.const (Value.int IntKind.i64 7))) Option.none), (AOper.mk
  (Option.some 10) (AOp.mv (Operand.tmp 9)) Option.none), (AOper.mk (Option.some 11) (AOp.mv (Operand.tmp 0)) (Option.some (10, Bool.false))), (AOper.mk (Option.some 12)
  (AOp.atSlice 1 (Operand.tmp 11) (Operand.const (Value.int IntKind.i64 0))) (Option.some (10, Bool.false))), (AOper.mk (Option.some 13) (AOp.load 1 Bool.false (Operand.tmp 12))
  (Option.some (10, Bool.false))), (AOper.mk (Option.some 14) (AOp.bin BinOp.neq (Operand.tmp 13) (Operand.const (Value.int IntKind.u8 167))) (Option.some (10, Bool.false))),
  (AOper.mk (Option.some 15) (AOp.pick (Operand.tmp 10) (Operand.const (Value.bool Bool.true)) (Operand.tmp 14)) Option.none)]) (ACode.cond (Operand.tmp 15) (ACode.seq
  (ACode.region [(AOper.mk (Option.some 2) (AOp.mv (Operand.const (Value.slice Option.none 0 0))) Option.none), (AOper.mk (Option.some 3) (AOp.mv (Operand.const (Value.int
  IntKind.i64 0))) Option.none)]) ACode.ret) ACode.skip)) (ACode.seq (ACode.draws [((AOper.mk (Option.some 16) (AOp.mv (Operand.tmp 0)) Option.none), (0, 11)), ((AOper.mk
  (Option.some 17) (AOp.atSlice 1 (Operand.tmp 16) (Operand.const (Value.int IntKind.i64 1))) Option.none), (0, 11)), ((AOper.mk (Option.some 18) (AOp.load 1 Bool.false
  (Operand.tmp 17)) Option.none), (0, 11)), ((AOper.mk (Option.some 19) (AOp.conv IntKind.i64 (Operand.tmp 18)) Option.none), (0, 11)), ((AOper.mk (Option.some 20) (AOp.bin
  BinOp.shl (Operand.tmp 19) (Operand.const (Value.int IntKind.u64 8))) Option.none), (0, 11)), ((AOper.mk (Option.some 21) (AOp.mv (Operand.tmp 0)) Option.none), (0, 11)),
  ((AOper.mk (Option.some 22) (AOp.atSlice 1 (Operand.tmp 21) (Operand.const (Value.int IntKind.i64 2))) Option.none), (0, 11)), ((AOper.mk (Option.some 23) (AOp.load 1 Bool.false
  (Operand.tmp 22)) Option.none), (0, 11)), ((AOper.mk (Option.some 24) (AOp.conv IntKind.i64 (Operand.tmp 23)) Option.none), (0, 11)), ((AOper.mk (Option.some 25) (AOp.bin
  BinOp.or (Operand.tmp 20) (Operand.tmp 24)) Option.none), (0, 11)), ((AOper.mk (Option.some 4) (AOp.mv (Operand.tmp 25)) Option.none), (0, 11))]) (ACode.seq (ACode.seq
  (ACode.region [(AOper.mk (Option.some 26) (AOp.mv (Operand.tmp 4)) Option.none), (AOper.mk (Option.some 27) (AOp.bin BinOp.gtr (Operand.tmp 26) (Operand.const (Value.int
  IntKind.i64 16384))) Option.none), (AOper.mk (Option.some 28) (AOp.mv (Operand.tmp 27)) Option.none), (AOper.mk (Option.some 29) (AOp.mv (Operand.tmp 4)) (Option.some (28,
  Bool.false))), (AOper.mk (Option.some 30) (AOp.mv (Operand.tmp 0)) (Option.some (28, Bool.false))), (AOper.mk (Option.some 31) (AOp.len (Operand.tmp 30)) (Option.some (28,
  Bool.false))), (AOper.mk (Option.some 32) (AOp.bin BinOp.sub (Operand.tmp 31) (Operand.const (Value.int IntKind.i64 3))) (Option.some (28, Bool.false))), (AOper.mk (Option.some
  33) (AOp.bin BinOp.sub (Operand.tmp 32) (Operand.const (Value.int IntKind.i64 4))) (Option.some (28, Bool.false))), (AOper.mk (Option.some 34) (AOp.bin BinOp.gtr (Operand.tmp 29)
  (Operand.tmp 33)) (Option.some (28, Bool.false))), (AOper.mk (Option.some 35) (AOp.pick (Operand.tmp 28) (Operand.const (Value.bool Bool.true)) (Operand.tmp 34)) Option.none)])
  (ACode.cond (Operand.tmp 35) (ACode.seq (ACode.region [(AOper.mk (Option.some 2) (AOp.mv (Operand.const (Value.slice Option.none 0 0))) Option.none), (AOper.mk (Option.some 3)
  (AOp.mv (Operand.const (Value.int IntKind.i64 0))) Option.none)]) ACode.ret) ACode.skip)) (ACode.seq (ACode.region [(AOper.mk (Option.some 36) (AOp.mv (Operand.tmp 4))
  Option.none), (AOper.mk (Option.some 37) (AOp.bin BinOp.add (Operand.const (Value.int IntKind.i64 3)) (Operand.tmp 36)) Option.none), (AOper.mk (Option.some 5) (AOp.mv
  (Operand.tmp 37)) Option.none)]) (ACode.seq (ACode.region [(AOper.mk (Option.some 38) (AOp.mv (Operand.tmp 0)) Option.none), (AOper.mk (Option.some 39) (AOp.mv (Operand.tmp 5))
  Option.none), (AOper.mk (Option.some 40) (AOp.cutSlice 1 (Operand.tmp 38) Option.none (Option.some (Operand.tmp 39)) Option.none) Option.none), (AOper.mk (Option.some 41)
  (AOp.buildSlice 1 1 [(AV.slice Option.none 0 0 0 0)] [(0, (1, (Operand.tmp 40)))]) Option.none), (AOper.mk (Option.some 42) (AOp.call 10 [(Operand.tmp 41)]) Option.none),
  (AOper.mk (Option.some 6) (AOp.mv (Operand.tmp 42)) Option.none)]) (ACode.seq (ACode.seq (ACode.region [(AOper.mk (Option.some 43) (AOp.mv (Operand.tmp 0)) Option.none),
  (AOper.mk (Option.some 44) (AOp.mv (Operand.tmp 5)) Option.none), (AOper.mk (Option.some 45) (AOp.mv (Operand.tmp 5)) Option.none), (AOper.mk (Option.some 46) (AOp.bin BinOp.add
  (Operand.tmp 45) (Operand.const (Value.int IntKind.i64 4))) Option.none), (AOper.mk (Option.some 47) (AOp.cutSlice 1 (Operand.tmp 43) (Option.some (Operand.tmp 44)) (Option.some
  (Operand.tmp 46)) Option.none) Option.none), (AOper.mk (Option.some 48) (AOp.mv (Operand.tmp 6)) Option.none), (AOper.mk (Option.some 49) (AOp.bin BinOp.shr (Operand.tmp 48)
  (Operand.const (Value.int IntKind.u64 24))) Option.none), (AOper.mk (Option.some 50) (AOp.conv IntKind.u8 (Operand.tmp 49)) Option.none), (AOper.mk (Option.some 51) (AOp.mv
  (Operand.tmp 6)) Option.none), (AOper.mk (Option.some 52) (AOp.bin BinOp.shr (Operand.tmp 51) (Operand.const (Value.int IntKind.u64 16))) Option.none), (AOper.mk (Option.some 53)
  (AOp.conv IntKind.u8 (Operand.tmp 52)) Option.none), (AOper.mk (Option.some 54) (AOp.mv (Operand.tmp 6)) Option.none), (AOper.mk (Option.some 55) (AOp.bin BinOp.shr (Operand.tmp
  54) (Operand.const (Value.int IntKind.u64 8))) Option.none), (AOper.mk (Option.some 56) (AOp.conv IntKind.u8 (Operand.tmp 55)) Option.none), (AOper.mk (Option.some 57) (AOp.mv
  (Operand.tmp 6)) Option.none), (AOper.mk (Option.some 58) (AOp.conv IntKind.u8 (Operand.tmp 57)) Option.none), (AOper.mk (Option.some 59) (AOp.buildSlice 4 1 [(AV.int IntKind.u8
  0), (AV.int IntKind.u8 0), (AV.int IntKind.u8 0), (AV.int IntKind.u8 0)] [(0, (1, (Operand.tmp 50))), (1, (1, (Operand.tmp 53))), (2, (1, (Operand.tmp 56))), (3, (1, (Operand.tmp
  58)))]) Option.none), (AOper.mk (Option.some 60) (AOp.call 19 [(Operand.tmp 47), (Operand.tmp 59)]) Option.none), (AOper.mk (Option.some 61) (AOp.un UnOp.not (Operand.tmp 60))
  Option.none)]) (ACode.cond (Operand.tmp 61) (ACode.seq (ACode.region [(AOper.mk (Option.some 2) (AOp.mv (Operand.const (Value.slice Option.none 0 0))) Option.none), (AOper.mk
  (Option.some 3) (AOp.mv (Operand.const (Value.int IntKind.i64 0))) Option.none)]) ACode.ret) ACode.skip)) (ACode.seq (ACode.region [(AOper.mk (Option.some 62) (AOp.mv
  (Operand.tmp 0)) Option.none), (AOper.mk (Option.some 63) (AOp.mv (Operand.tmp 5)) Option.none), (AOper.mk (Option.some 64) (AOp.cutSlice 1 (Operand.tmp 62) (Option.some
  (Operand.const (Value.int IntKind.i64 3))) (Option.some (Operand.tmp 63)) Option.none) Option.none), (AOper.mk (Option.some 65) (AOp.call 20 [(Operand.tmp 64)]) Option.none),
  (AOper.mk (Option.some 66) (AOp.mv (Operand.tmp 5)) Option.none), (AOper.mk (Option.some 67) (AOp.bin BinOp.add (Operand.tmp 66) (Operand.const (Value.int IntKind.i64 4)))
  Option.none), (AOper.mk (Option.some 2) (AOp.mv (Operand.tmp 65)) Option.none), (AOper.mk (Option.some 3) (AOp.mv (Operand.tmp 67)) Option.none)]) ACode.ret)))))))) 68 [(ARes.tmp
  2), (ARes.tmp 3)])
def a17 : AFn :=
  (AFn.mk (ACode.seq (ACode.region [(AOper.mk (Option.some 2) (AOp.mv (Operand.const (Value.slice Option.none 0 0))) Option.none), (AOper.mk (Option.some 3) (AOp.mv (Operand.const
  (Value.int IntKind.i64 0))) Option.none)]) (ACode.seq (ACode.seq (ACode.region [(AOper.mk (Option.some 5) (AOp.mv (Operand.tmp 0)) Option.none), (AOper.mk (Option.some 6)
  (AOp.len (Operand.tmp 5)) Option.none), (AOper.mk (Option.some 7) (AOp.bin BinOp.lss (Operand.tmp 6) (Operand.const (Value.int IntKind.i64 7))) Option.none)]) (ACode.cond
  (Operand.tmp 7) (ACode.seq (ACode.region [(AOper.mk (Option.some 2) (AOp.mv (Operand.const (Value.slice Option.none 0 0))) Option.none), (AOper.mk (Option.some 3) (AOp.mv
  (Operand.const (Value.int IntKind.i64 0))) Option.none)]) ACode.ret) ACode.skip)) (ACode.seq (ACode.draws [((AOper.mk (Option.some 8) (AOp.mv (Operand.tmp 0)) Option.none), (0,
  11)), ((AOper.mk (Option.some 9) (AOp.atSlice 1 (Operand.tmp 8) (Operand.const (Value.int IntKind.i64 1))) Option.none), (0, 11)), ((AOper.mk (Option.some 10) (AOp.load 1
  Bool.false (Operand.tmp 9)) Option.none), (0, 11)), ((AOper.mk (Option.some 11) (AOp.conv IntKind.i64 (Operand.tmp 10)) Option.none), (0, 11)), ((AOper.mk (Option.some 12)
  (AOp.bin BinOp.mul (Operand.const (Value.int IntKind.i64 256)) (Operand.tmp 11)) Option.none), (0, 11)), ((AOper.mk (Option.some 13) (AOp.mv (Operand.tmp 0)) Option.none), (0,
  11)), ((AOper.mk (Option.some 14) (AOp.atSlice 1 (Operand.tmp 13) (Operand.const (Value.int IntKind.i64 2))) Option.none), (0, 11)), ((AOper.mk (Option.some 15) (AOp.load 1
  Bool.false (Operand.tmp 14)) Option.none), (0, 11)), ((AOper.mk (Option.some 16) (AOp.conv IntKind.i64 (Operand.tmp 15)) Option.none), (0, 11)), ((AOper.mk (Option.some 17)
  (AOp.bin BinOp.add (Operand.tmp 12) (Operand.tmp 16)) Option.none), (0, 11)), ((AOper.mk (Option.some 4) (AOp.mv (Operand.tmp 17)) Option.none), (0, 11))]) (ACode.seq (ACode.seq
  (ACode.region [(AOper.mk (Option.some 18) (AOp.mv (Operand.tmp 4)) Option.none), (AOper.mk (Option.some 19) (AOp.bin BinOp.gtr (Operand.tmp 18) (Operand.const (Value.int
  IntKind.i64 16384))) Option.none), (AOper.mk (Option.some 20) (AOp.mv (Operand.tmp 19)) Option.none), (AOper.mk (Option.some 21) (AOp.mv (Operand.tmp 0)) (Option.some (20,
  Bool.false))), (AOper.mk (Option.some 22) (AOp.len (Operand.tmp 21)) (Option.some (20, Bool.false))), (AOper.mk (Option.some 23) (AOp.mv (Operand.tmp 4)) (Option.some (20,
  Bool.false))), (AOper.mk (Option.some 24) (AOp.bin BinOp.add (Operand.tmp 23) (Operand.const (Value.int IntKind.i64 7))) (Option.some (20, Bool.false))), (AOper.mk (Option.some
  25) (AOp.bin BinOp.lss (Operand.tmp 22) (Operand.tmp 24)) (Option.some (20, Bool.false))), (AOper.mk (Option.some 26) (AOp.pick (Operand.tmp 20) (Operand.const (Value.bool
  Bool.true)) (Operand.tmp 25)) Option.none)]) (ACode.cond (Operand.tmp 26) (ACode.seq (ACode.region [(AOper.mk (Option.some 2) (AOp.mv (Operand.const (Value.slice Option.none 0
  0))) Option.none), (AOper.mk (Option.some 3) (AOp.mv (Operand.const (Value.int IntKind.i64 0))) Option.none)]) ACode.ret) ACode.skip)) (ACode.seq (ACode.seq (ACode.draws
  [((AOper.mk (Option.some 27) (AOp.mv (Operand.tmp 0)) Option.none), (0, 4)), ((AOper.mk (Option.some 28) (AOp.mv (Operand.tmp 4)) Option.none), (0, 4)), ((AOper.mk (Option.some
  29) (AOp.bin BinOp.add (Operand.const (Value.int IntKind.i64 3)) (Operand.tmp 28)) Option.none), (0, 4)), ((AOper.mk (Option.some 30) (AOp.cutSlice 1 (Operand.tmp 27)
  (Option.some (Operand.const (Value.int IntKind.i64 3))) (Option.some (Operand.tmp 29)) Option.none) Option.none), (0, 4)), ((AOper.mk (Option.some 31) (AOp.call 14 [(Operand.tmp
  30)]) Option.none), (0, 12)), ((AOper.mk (Option.some 32) (AOp.textOf (Operand.tmp 31)) Option.none), (5, 12)), ((AOper.mk (Option.some 33) (AOp.mv (Operand.tmp 0)) Option.none),
  (0, 12)), ((AOper.mk (Option.some 34) (AOp.mv (Operand.tmp 4)) Option.none), (0, 12)), ((AOper.mk (Option.some 35) (AOp.bin BinOp.add (Operand.tmp 34) (Operand.const (Value.int
  IntKind.i64 7))) Option.none), (0, 12)), ((AOper.mk (Option.some 36) (AOp.cutSlice 1 (Operand.tmp 33) Option.none (Option.some (Operand.tmp 35)) Option.none) Option.none), (0,
  12)), ((AOper.mk (Option.some 37) (AOp.textOf (Operand.tmp 36)) Option.none), (0, 12)), ((AOper.mk (Option.some 38) (AOp.bin BinOp.neq (Operand.tmp 32) (Operand.tmp 37))
  Option.none), (5, 12))]) (ACode.cond (Operand.tmp 38) (ACode.seq (ACode.region [(AOper.mk (Option.some 2) (AOp.mv (Operand.const (Value.slice Option.none 0 0))) Option.none),
  (AOper.mk (Option.some 3) (AOp.mv (Operand.const (Value.int IntKind.i64 0))) Option.none)]) ACode.ret) ACode.skip)) (ACode.seq (ACode.region [(AOper.mk (Option.some 39) (AOp.mv
  (Operand.tmp 0)) Option.none), (AOper.mk (Option.some 40) (AOp.mv (Operand.tmp 4)) Option.none), (AOper.mk (Option.some 41) (AOp.bin BinOp.add (Operand.const (Value.int
  IntKind.i64 3)) (Operand.tmp 40)) Option.none), (AOper.mk (Option.some 42) (AOp.cutSlice 1 (Operand.tmp 39) (Option.some (Operand.const (Value.int IntKind.i64 3))) (Option.some
  (Operand.tmp 41)) Option.none) Option.none), (AOper.mk (Option.some 43) (AOp.mv (Operand.tmp 4)) Option.none), (AOper.mk (Option.some 44) (AOp.bin BinOp.add (Operand.tmp 43)
  (Operand.const (Value.int IntKind.i64 7))) Option.none), (AOper.mk (Option.some 2) (AOp.mv (Operand.tmp 42)) Option.none), (AOper.mk (Option.some 3) (AOp.mv (Operand.tmp 44))
  Option.none)]) ACode.ret)))))) 45 [(ARes.tmp 2), (ARes.tmp 3)])
def a18 : AFn :=
  (AFn.mk (ACode.seq (ACode.region [(AOper.mk (Option.some 2) (AOp.mv (Operand.const (Value.slice Option.none 0 0))) Option.none), (AOper.mk (Option.some 3) (AOp.mv (Operand.const
  (Value.int IntKind.i64 0))) Option.none)]) (ACode.seq (ACode.region [(AOper.mk (Option.some 4) (AOp.mv (Operand.const (Value.slice Option.none 0 0))) Option.none)]) (ACode.seq
  (ACode.region [(AOper.mk (Option.some 5) (AOp.mv (Operand.const (Value.int IntKind.i64 0))) Option.none)]) (ACode.block 0 (ACode.loop (ACode.block 1 (ACode.seq (ACode.region
  [(AOper.mk (Option.some 9) (AOp.mv (Operand.tmp 0)) Option.none), (AOper.mk (Option.some 10) (AOp.mv (Operand.tmp 5)) Option.none), (AOper.mk (Option.some 11) (AOp.cutSlice 1
  (Operand.tmp 9) (Option.some (Operand.tmp 10)) Option.none Option.none) Option.none), (AOper.mk (Option.some 12) (AOp.call 16 [(Operand.tmp 11)]) Option.none), (AOper.mk
  (Option.some 8) (AOp.mv (Operand.tmp 12)) Option.none), (AOper.mk (Option.some 13) (AOp.extract (Operand.tmp 8) 0) Option.none), (AOper.mk (Option.some 14) (AOp.extract
  (Operand.tmp 8) 1) Option.none), (AOper.mk (Option.some 6) (AOp.mv (Operand.tmp 13)) Option.none), (AOper.mk (Option.some 7) (AOp.mv (Operand.tmp 14)) Option.none)]) (ACode.seq
  (ACode.seq (ACode.region [(AOper.mk (Option.some 15) (AOp.mv (Operand.tmp 7)) Option.none), (AOper.mk (Option.some 16) (AOp.bin BinOp.eql (Operand.tmp 15) (Operand.const
  (Value.int IntKind.i64 0))) Option.none)]) (ACode.cond (Operand.tmp 16) (ACode.seq (ACode.region [(AOper.mk (Option.some 17) (AOp.mv (Operand.tmp 4)) Option.none), (AOper.mk
  (Option.some 18) (AOp.mv (Operand.tmp 5)) Option.none), (AOper.mk (Option.some 2) (AOp.mv (Operand.tmp 17)) Option.none), (AOper.mk (Option.some 3) (AOp.mv (Operand.tmp 18))
  Option.none)]) ACode.ret) ACode.skip)) (ACode.seq (ACode.region [(AOper.mk (Option.some 19) (AOp.mv (Operand.tmp 4)) Option.none), (AOper.mk (Option.some 20) (AOp.mv (Operand.tmp
  6)) Option.none), (AOper.mk (Option.some 21) (AOp.buildSlice 1 1 [(AV.slice Option.none 0 0 0 0)] [(0, (1, (Operand.tmp 20)))]) Option.none), (AOper.mk (Option.some 22)
  (AOp.append Bool.false 1 24 (Operand.tmp 19) (Operand.tmp 21)) Option.none), (AOper.mk (Option.some 4) (AOp.mv (Operand.tmp 22)) Option.none)]) (ACode.region [(AOper.mk
  (Option.some 23) (AOp.mv (Operand.tmp 5)) Option.none), (AOper.mk (Option.some 24) (AOp.mv (Operand.tmp 7)) Option.none), (AOper.mk (Option.some 25) (AOp.bin BinOp.add
  (Operand.tmp 23) (Operand.tmp 24)) Option.none), (AOper.mk (Option.some 5) (AOp.mv (Operand.tmp 25)) Option.none)])))))))))) 26 [(ARes.tmp 2), (ARes.tmp 3)])
def a19 : AFn :=
  (AFn.mk (ACode.seq (ACode.region [(AOper.mk (Option.some 4) (AOp.mv (Operand.const (Value.bool Bool.false))) Option.none)]) (ACode.seq (ACode.region [(AOper.mk (Option.some 5)
  (AOp.mv (Operand.tmp 0)) Option.none), (AOper.mk (Option.some 6) (AOp.textOf (Operand.tmp 5)) Option.none), (AOper.mk (Option.some 7) (AOp.mv (Operand.tmp 1)) Option.none),
  (AOper.mk (Option.some 8) (AOp.textOf (Operand.tmp 7)) Option.none), (AOper.mk (Option.some 9) (AOp.bin BinOp.eql (Operand.tmp 6) (Operand.tmp 8)) Option.none), (AOper.mk
  (Option.some 4) (AOp.mv (Operand.tmp 9)) Option.none)]) ACode.ret)) 10 [(ARes.tmp 4)])
def a20 : AFn :=
  (AFn.mk (ACode.seq (ACode.region [(AOper.mk (Option.some 2) (AOp.mv (Operand.const (Value.slice Option.none 0 0))) Option.none)]) (ACode.seq (ACode.seq (ACode.region [(AOper.mk
  (Option.some 3) (AOp.mv (Operand.tmp 0)) Option.none), (AOper.mk (Option.some 4) (AOp.eq EqK.nilSlice Bool.false (Operand.tmp 3) (Operand.const (Value.slice Option.none 0 0)))
  Option.none)]) (ACode.cond (Operand.tmp 4) (ACode.seq (ACode.region [(AOper.mk (Option.some 2) (AOp.mv (Operand.const (Value.slice Option.none 0 0))) Option.none)]) ACode.ret)
  ACode.skip)) (ACode.seq (ACode.region [(AOper.mk (Option.some 5) (AOp.buildSlice 0 1 [] []) Option.none), (AOper.mk (Option.some 6) (AOp.mv (Operand.tmp 0)) Option.none),
  (AOper.mk (Option.some 7) (AOp.append Bool.false 1 1 (Operand.tmp 5) (Operand.tmp 6)) Option.none), (AOper.mk (Option.some 2) (AOp.mv (Operand.tmp 7)) Option.none)]) ACode.ret)))
  8 [(ARes.tmp 2)])
def fns : Nat → Option AFn
  | 3 => some a3
  | 4 => some a4
  | 5 => some a5
  | 6 => some a6
  | 7 => some a7
  | 8 => some a8
  | 9 => some a9
  | 10 => some a10
  | 11 => some a11
  | 12 => some a12
  | 13 => some a13
  | 14 => some a14
  | 15 => some a15
  | 16 => some a16
  | 17 => some a17
  | 18 => some a18
  | 19 => some a19
  | 20 => some a20
  | _ => none
end Go.Proofs.Ytdgcflackljecaa
