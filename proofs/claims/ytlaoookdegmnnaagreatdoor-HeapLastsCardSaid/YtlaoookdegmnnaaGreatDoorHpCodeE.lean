/- The functions that tell an error's number, as the abstract machine's code. -/
import Derived.Test.YtlaoookdegmnnaaGreatDoorHpCode
import Derived.Test.YtlaoookdegmnnaaGreatDoorStFrames
set_option maxRecDepth 100000
namespace Go.Proofs.YtlaoookdegmnnaaGreatDoor
open Go.AM
def a67 : AFn :=
 (.mk (.seq (.region [(oG 2 (.mv (oC 0)))]) (.seq (.region [(oG 3 (.alloc [(.ptr none)]))]) (.seq (.block 0 (.seq (.region [oM 5 0,(oG 6 (.eq (.iface true) false (oT 5) (.const .nilIface))),oM 4 6]) (.cond (oT 4) (.seq (.region
 [(oG 2 (.mv (oC 0)))]) .ret) (.seq (.region [oM 8 0,(oG 9 (.mkIface 231 (oT 3))),(oG 10 (.call 153 [oT 8,oT 9])),oM 7 10]) (.cond (oT 7) (.seq (.region [oL 11 3,oN 12 11,oF 13 0 12,oL 14 13,oM 2 14]) .ret) .skip))))) (.seq
 (.region [(oG 2 (.mv (oC 2)))]) .ret)))) 15 [.tmp 2])
def a153 : AFn :=
 (.mk (.seq (.region [(oG 4 (.mv (.const (.bool false))))]) (.seq (.seq (.region [oM 8 0,(oG 9 (.eq (.iface true) false (oT 8) (.const .nilIface)))]) (.cond (oT 9) (.seq (.region [(oG 4 (.mv (.const (.bool false))))]) .ret) .skip))
 (.seq (.seq (.region [oM 10 1,(oG 11 (.eq (.iface true) false (oT 10) (.const .nilIface)))]) (.cond (oT 11) (.region [(oG 12 (.mkIface 9 (.const (.string (ByteArray.mk
 #[101,114,114,111,114,115,58,32,116,97,114,103,101,116,32,99,97,110,110,111,116,32,98,101,32,110,105,108]))))),(oE (.extract (.const (.bool false)) 0))]) .skip)) (.seq (.region [oM 13 1,(oG 14 (.call 254 [oT 13])),(oG 5 (.alloc
 [(.ptr none),(.ptr none),(.int .u64 0)])),(oE (.store 3 (oT 5) (oT 14)))]) (.seq (.region [(oG 15 (.load 3 true (oT 5))),(oG 16 (.call 255 [oT 15])),oM 6 16]) (.seq (.seq (.region [oM 17 6,(oG 18 (.invoke (oT 17)
 [(17,(430,none)),(361,(445,none)),(429,(430,(some (0,(0,false))))),(430,(430,(some (0,(0,false)))))] [])),(oG 19 (.bin .neq (oT 18) (.const (.int .u8 22)))),oM 20 19,(.mk (some 21) (.load 3 true (oT 5)) (some (20,false))),(.mk
 (some 22) (.call 256 [oT 21]) (some (20,false))),(oG 23 (.pick (oT 20) (.const (.bool true)) (oT 22)))]) (.cond (oT 23) (.region [(oG 24 (.mkIface 9 (.const (.string (ByteArray.mk
 #[101,114,114,111,114,115,58,32,116,97,114,103,101,116,32,109,117,115,116,32,98,101,32,97,32,110,111,110,45,110,105,108,32,112,111,105,110,116,101,114]))))),(oE (.extract (.const (.bool false)) 0))]) .skip)) (.seq (.region [oM 25
 6,(oG 26 (.invoke (oT 25) [(17,(429,none)),(361,(344,none)),(429,(429,(some (0,(0,false))))),(430,(450,none))] [])),oM 7 26]) (.seq (.seq (.region [oM 27 7,(oG 28 (.invoke (oT 27) [(17,(430,none)),(361,(445,none)),(429,(430,(some
 (0,(0,false))))),(430,(430,(some (0,(0,false)))))] [])),(oG 29 (.bin .neq (oT 28) (.const (.int .u8 20)))),oM 30 29,(.mk (some 31) (.mv (oT 7)) (some (30,true))),(.mk (some 32) (.load 1 false (.global 0)) (some (30,true))),(.mk
 (some 33) (.invoke (oT 31) [(430,(451,none))] [oT 32]) (some (30,true))),(.mk (some 34) (.un .not (oT 33)) (some (30,true))),(oG 35 (.pick (oT 30) (oT 34) (.const (.bool false))))]) (.cond (oT 35) (.region [(oG 36 (.mkIface 9
 (.const (.string (ByteArray.mk
 #[101,114,114,111,114,115,58,32,42,116,97,114,103,101,116,32,109,117,115,116,32,98,101,32,105,110,116,101,114,102,97,99,101,32,111,114,32,105,109,112,108,101,109,101,110,116,32,101,114,114,111,114]))))),(oE (.extract (.const
 (.bool false)) 0))]) .skip)) (.seq (.region [oM 37 0,oM 38 1,(oG 39 (.load 3 true (oT 5))),oM 40 7,(oG 41 (.call 257 [oT 37,oT 38,oT 39,oT 40])),oM 4 41]) .ret))))))))) 42 [.tmp 4])
def a257 : AFn :=
 (.mk (.seq (.region [(oG 6 (.box (oT 2))),(oG 8 (.mv (.const (.bool false))))]) (.block 0 (.loop (.block 1 (.seq (.seq (.region [oM 16 0,(oG 17 (.call 286 [oT 16])),oM 18 3,(oG 19 (.invoke (oT 17) [(430,(448,none))] [oT 18]))])
 (.cond (oT 19) (.seq (.region [(oG 20 (.load 3 true (oT 6))),(oG 21 (.call 344 [oT 20])),oM 22 0,(oG 23 (.call 254 [oT 22])),(oG 24 (.call 345 [oT 21,oT 23]))]) (.seq (.region [(oG 8 (.mv (.const (.bool true))))]) .ret)) .skip))
 (.seq (.seq (.region [oM 26 0,(oG 27 (.isIface []
 [8,10,11,14,15,16,17,19,22,24,25,26,32,54,58,66,77,79,85,100,103,105,122,138,150,155,182,198,229,235,236,245,251,253,254,255,271,327,343,349,350,351,352,353,354,359,360,361,366,429,430,431,483,511] true (oT 26))),oM 25 27,oX 28 25
 0,oX 29 25 1,oM 9 28,oM 10 29]) (.seq (.region [oM 30 10,oM 31 30,(.mk (some 32) (.mv (oT 9)) (some (31,true))),(.mk (some 33) (.mv (oT 1)) (some (31,true))),(.mk (some 34) (.invoke (oT 32) [] [oT 33]) (some (31,true))),(oG 35
 (.pick (oT 31) (oT 34) (.const (.bool false))))]) (.cond (oT 35) (.seq (.region [(oG 8 (.mv (.const (.bool true))))]) .ret) .skip))) (.seq (.region [oM 36 0]) (.block 2 (.seq (.region [(oG 37 (.isIface
 [251,253,254,255,349,350,351,352,353,354] [8,10,11,14,15,16,17,19,22,24,25,26,32,54,58,66,77,79,85,100,103,105,122,138,150,155,182,198,229,235,236,245,271,327,343,359,360,361,366,429,430,431,483,511] true (oT 36))),oX 38 37 1,oX
 39 37 0]) (.cond (oT 38) (.seq (.region [oM 11 39]) (.seq (.region [oM 40 11,(oG 41 (.invoke (oT 40) [(251,(441,(some (0,(1,true))))),(253,(441,none)),(349,(441,(some (0,(1,true))))),(352,(441,(some (0,(1,true)))))] [])),oM 0 41])
 (.seq (.region [oM 42 0,(oG 43 (.eq (.iface true) false (oT 42) (.const .nilIface)))]) (.cond (oT 43) (.seq (.region [(oG 8 (.mv (.const (.bool false))))]) .ret) .skip)))) (.seq (.region [(oG 44 (.isIface []
 [8,10,11,14,15,16,17,19,22,24,25,26,32,54,58,66,77,79,85,100,103,105,122,138,150,155,182,198,229,235,236,245,251,253,254,255,271,327,343,349,350,351,352,353,354,359,360,361,366,429,430,431,483,511] true (oT 36))),oX 45 44 1,oX 46
 44 0]) (.cond (oT 45) (.seq (.region [oM 12 46]) (.seq (.seq (.region [oM 47 12,(oG 48 (.invoke (oT 47) [(251,(441,(some (0,(1,true))))),(253,(441,none)),(349,(441,(some (0,(1,true))))),(352,(441,(some (0,(1,true)))))] [])),(oG 49
 (.len (oT 48))),(oG 50 (.mv (oC 0)))]) (.block 3 (.loop (.seq (.region [(oG 51 (.bin .lss (oT 50) (oT 49)))]) (.seq (.cond (oT 51) .skip (.exit 3)) (.seq (.block 4 (.seq (.region [(oG 52 (.atSlice 1 (oT 48) (oT 50))),oL 53 52,oM
 14 53]) (.seq (.seq (.region [oM 54 14,(oG 55 (.eq (.iface true) false (oT 54) (.const .nilIface)))]) (.cond (oT 55) (.exit 4) .skip)) (.seq (.region [oM 56 14,oM 57 1,(oG 58 (.load 3 true (oT 6))),oM 59 3,(oG 60 (.call 257 [oT
 56,oT 57,oT 58,oT 59]))]) (.cond (oT 60) (.seq (.region [(oG 8 (.mv (.const (.bool true))))]) .ret) .skip))))) (.region [(oG 61 (.bin .add (oT 50) (oC 1))),oM 50 61]))))))) (.seq (.region [(oG 8 (.mv (.const (.bool false))))])
 .ret))) (.seq (.region [oM 15 36]) (.seq (.region [(oG 8 (.mv (.const (.bool false))))]) .ret)))))))))))))) 62 [.tmp 8])
def a441 : AFn :=
 (.mk (.seq (.region [(oG 1 (.box (oT 0))),(oG 2 (.mv (.const .nilIface)))]) (.seq (.region [oF 3 0 1,oL 4 3,oM 2 4]) .ret)) 5 [.tmp 2])
def fnsE : Nat → Option AFn
  | 67 => some a67
  | 153 => some a153
  | 257 => some a257
  | 441 => some a441
  | f => fns f
def fnsK : Nat → Option AFn := fun f => bif Nat.beq f 172 || Nat.beq f 156 then none else fnsE f
end Go.Proofs.YtlaoookdegmnnaaGreatDoor
