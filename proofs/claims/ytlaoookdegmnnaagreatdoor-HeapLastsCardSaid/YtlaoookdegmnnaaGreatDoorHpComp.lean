/- The seat's code is the translation of the program's functions. -/
import Derived.Test.YtlaoookdegmnnaaGreatDoorProg
import Derived.Test.YtlaoookdegmnnaaGreatDoorHpCode
import Derived.Test.YtlaoookdegmnnaaGreatDoorAmRun
import Derived.KernelRfl
set_option maxRecDepth 100000
namespace Go.Proofs.YtlaoookdegmnnaaGreatDoor
open Go.AM
theorem c3:compFn Tryz.prog Tryz.f3=some a3:=by kernel_rfl
theorem c4:compFn Tryz.prog Tryz.f4=some a4:=by kernel_rfl
theorem c84:compFn Tryz.prog Tryz.f84=some a84:=by kernel_rfl
theorem fns_ok:∀ f afn,fns f=some afn→∃ fn,Tryz.prog.funcs[f]?=some fn∧compFn Tryz.prog fn=some afn∧fn.name ≠ "runtime.NumGoroutine":=by
 intro f afn h
 unfold fns at h
 split at h
 ·cases h;exact⟨_,Tryz.func3,c3,by unfold Tryz.f3;decide⟩
 ·cases h;exact⟨_,Tryz.func4,c4,by unfold Tryz.f4;decide⟩
 ·cases h;exact⟨_,Tryz.func14,by kernel_rfl,by decide⟩
 ·cases h;exact⟨_,Tryz.func15,by kernel_rfl,by decide⟩
 ·cases h;exact⟨_,Tryz.func16,by kernel_rfl,by decide⟩
 ·cases h;exact⟨_,Tryz.func17,by kernel_rfl,by decide⟩
 ·cases h;exact⟨_,Tryz.func18,by kernel_rfl,by decide⟩
 ·cases h;exact⟨_,Tryz.func19,by kernel_rfl,by decide⟩
 ·cases h;exact⟨_,Tryz.func20,by kernel_rfl,by decide⟩
 ·cases h;exact⟨_,Tryz.func21,by kernel_rfl,by decide⟩
 ·cases h;exact⟨_,Tryz.func22,by kernel_rfl,by decide⟩
 ·cases h;exact⟨_,Tryz.func23,by kernel_rfl,by decide⟩
 ·cases h;exact⟨_,Tryz.func24,by kernel_rfl,by decide⟩
 ·cases h;exact⟨_,Tryz.func25,by kernel_rfl,by decide⟩
 ·cases h;exact⟨_,Tryz.func26,by kernel_rfl,by decide⟩
 ·cases h;exact⟨_,Tryz.func27,by kernel_rfl,by decide⟩
 ·cases h;exact⟨_,Tryz.func63,by kernel_rfl,by decide⟩
 ·cases h;exact⟨_,Tryz.func64,by kernel_rfl,by decide⟩
 ·cases h;exact⟨_,Tryz.func65,by kernel_rfl,by decide⟩
 ·cases h;exact⟨_,Tryz.func66,by kernel_rfl,by decide⟩
 ·cases h;exact⟨_,Tryz.func68,by kernel_rfl,by decide⟩
 ·cases h;exact⟨_,Tryz.func69,by kernel_rfl,by decide⟩
 ·cases h;exact⟨_,Tryz.func70,by kernel_rfl,by decide⟩
 ·cases h;exact⟨_,Tryz.func71,by kernel_rfl,by decide⟩
 ·cases h;exact⟨_,Tryz.func72,by kernel_rfl,by decide⟩
 ·cases h;exact⟨_,Tryz.func73,by kernel_rfl,by decide⟩
 ·cases h;exact⟨_,Tryz.func74,by kernel_rfl,by decide⟩
 ·cases h;exact⟨_,Tryz.func75,by kernel_rfl,by decide⟩
 ·cases h;exact⟨_,Tryz.func76,by kernel_rfl,by decide⟩
 ·cases h;exact⟨_,Tryz.func77,by kernel_rfl,by decide⟩
 ·cases h;exact⟨_,Tryz.func78,by kernel_rfl,by decide⟩
 ·cases h;exact⟨_,Tryz.func79,by kernel_rfl,by decide⟩
 ·cases h;exact⟨_,Tryz.func80,by kernel_rfl,by decide⟩
 ·cases h;exact⟨_,Tryz.func81,by kernel_rfl,by decide⟩
 ·cases h;exact⟨_,Tryz.func82,by kernel_rfl,by decide⟩
 ·cases h;exact⟨_,Tryz.func83,by kernel_rfl,by decide⟩
 ·cases h;exact⟨_,Tryz.func84,c84,by unfold Tryz.f84;decide⟩
 ·cases h;exact⟨_,Tryz.func85,by kernel_rfl,by decide⟩
 ·cases h;exact⟨_,Tryz.func90,by kernel_rfl,by decide⟩
 ·cases h;exact⟨_,Tryz.func108,by kernel_rfl,by decide⟩
 ·cases h;exact⟨_,Tryz.func119,by kernel_rfl,by decide⟩
 ·cases h;exact⟨_,Tryz.func120,by kernel_rfl,by decide⟩
 ·cases h;exact⟨_,Tryz.func121,by kernel_rfl,by decide⟩
 ·cases h;exact⟨_,Tryz.func145,by kernel_rfl,by decide⟩
 ·cases h;exact⟨_,Tryz.func147,by kernel_rfl,by decide⟩
 ·cases h;exact⟨_,Tryz.func148,by kernel_rfl,by decide⟩
 ·cases h;exact⟨_,Tryz.func149,by kernel_rfl,by decide⟩
 ·cases h;exact⟨_,Tryz.func150,by kernel_rfl,by decide⟩
 ·cases h;exact⟨_,Tryz.func151,by kernel_rfl,by decide⟩
 ·cases h;exact⟨_,Tryz.func152,by kernel_rfl,by decide⟩
 ·cases h;exact⟨_,Tryz.func154,by kernel_rfl,by decide⟩
 ·cases h;exact⟨_,Tryz.func155,by kernel_rfl,by decide⟩
 ·cases h;exact⟨_,Tryz.func156,by kernel_rfl,by decide⟩
 ·cases h;exact⟨_,Tryz.func157,by kernel_rfl,by decide⟩
 ·cases h;exact⟨_,Tryz.func158,by kernel_rfl,by decide⟩
 ·cases h;exact⟨_,Tryz.func159,by kernel_rfl,by decide⟩
 ·cases h;exact⟨_,Tryz.func160,by kernel_rfl,by decide⟩
 ·cases h;exact⟨_,Tryz.func161,by kernel_rfl,by decide⟩
 ·cases h;exact⟨_,Tryz.func162,by kernel_rfl,by decide⟩
 ·cases h;exact⟨_,Tryz.func163,by kernel_rfl,by decide⟩
 ·cases h;exact⟨_,Tryz.func164,by kernel_rfl,by decide⟩
 ·cases h;exact⟨_,Tryz.func165,by kernel_rfl,by decide⟩
 ·cases h;exact⟨_,Tryz.func166,by kernel_rfl,by decide⟩
 ·cases h;exact⟨_,Tryz.func167,by kernel_rfl,by decide⟩
 ·cases h;exact⟨_,Tryz.func168,by kernel_rfl,by decide⟩
 ·cases h;exact⟨_,Tryz.func169,by kernel_rfl,by decide⟩
 ·cases h;exact⟨_,Tryz.func170,by kernel_rfl,by decide⟩
 ·cases h;exact⟨_,Tryz.func171,by kernel_rfl,by decide⟩
 ·cases h;exact⟨_,Tryz.func172,by kernel_rfl,by decide⟩
 ·cases h;exact⟨_,Tryz.func198,by kernel_rfl,by decide⟩
 ·cases h;exact⟨_,Tryz.func199,by kernel_rfl,by decide⟩
 ·cases h;exact⟨_,Tryz.func202,by kernel_rfl,by decide⟩
 ·cases h;exact⟨_,Tryz.func214,by kernel_rfl,by decide⟩
 ·cases h;exact⟨_,Tryz.func215,by kernel_rfl,by decide⟩
 ·cases h;exact⟨_,Tryz.func216,by kernel_rfl,by decide⟩
 ·cases h;exact⟨_,Tryz.func244,by kernel_rfl,by decide⟩
 ·cases h;exact⟨_,Tryz.func245,by kernel_rfl,by decide⟩
 ·cases h;exact⟨_,Tryz.func246,by kernel_rfl,by decide⟩
 ·cases h;exact⟨_,Tryz.func247,by kernel_rfl,by decide⟩
 ·cases h;exact⟨_,Tryz.func248,by kernel_rfl,by decide⟩
 ·cases h;exact⟨_,Tryz.func249,by kernel_rfl,by decide⟩
 ·cases h;exact⟨_,Tryz.func250,by kernel_rfl,by decide⟩
 ·cases h;exact⟨_,Tryz.func251,by kernel_rfl,by decide⟩
 ·cases h;exact⟨_,Tryz.func252,by kernel_rfl,by decide⟩
 ·cases h;exact⟨_,Tryz.func253,by kernel_rfl,by decide⟩
 ·cases h;exact⟨_,Tryz.func258,by kernel_rfl,by decide⟩
 ·cases h;exact⟨_,Tryz.func262,by kernel_rfl,by decide⟩
 ·cases h;exact⟨_,Tryz.func263,by kernel_rfl,by decide⟩
 ·cases h;exact⟨_,Tryz.func264,by kernel_rfl,by decide⟩
 ·cases h;exact⟨_,Tryz.func265,by kernel_rfl,by decide⟩
 ·cases h;exact⟨_,Tryz.func266,by kernel_rfl,by decide⟩
 ·cases h;exact⟨_,Tryz.func267,by kernel_rfl,by decide⟩
 ·cases h;exact⟨_,Tryz.func268,by kernel_rfl,by decide⟩
 ·cases h;exact⟨_,Tryz.func269,by kernel_rfl,by decide⟩
 ·cases h;exact⟨_,Tryz.func270,by kernel_rfl,by decide⟩
 ·cases h;exact⟨_,Tryz.func271,by kernel_rfl,by decide⟩
 ·cases h;exact⟨_,Tryz.func272,by kernel_rfl,by decide⟩
 ·cases h;exact⟨_,Tryz.func273,by kernel_rfl,by decide⟩
 ·cases h;exact⟨_,Tryz.func274,by kernel_rfl,by decide⟩
 ·cases h;exact⟨_,Tryz.func275,by kernel_rfl,by decide⟩
 ·cases h;exact⟨_,Tryz.func276,by kernel_rfl,by decide⟩
 ·cases h;exact⟨_,Tryz.func277,by kernel_rfl,by decide⟩
 ·cases h;exact⟨_,Tryz.func297,by kernel_rfl,by decide⟩
 ·cases h;exact⟨_,Tryz.func298,by kernel_rfl,by decide⟩
 ·cases h;exact⟨_,Tryz.func331,by kernel_rfl,by decide⟩
 ·cases h;exact⟨_,Tryz.func332,by kernel_rfl,by decide⟩
 ·cases h;exact⟨_,Tryz.func333,by kernel_rfl,by decide⟩
 ·cases h;exact⟨_,Tryz.func334,by kernel_rfl,by decide⟩
 ·cases h;exact⟨_,Tryz.func335,by kernel_rfl,by decide⟩
 ·cases h;exact⟨_,Tryz.func336,by kernel_rfl,by decide⟩
 ·cases h;exact⟨_,Tryz.func337,by kernel_rfl,by decide⟩
 ·cases h;exact⟨_,Tryz.func338,by kernel_rfl,by decide⟩
 ·cases h;exact⟨_,Tryz.func339,by kernel_rfl,by decide⟩
 ·cases h;exact⟨_,Tryz.func340,by kernel_rfl,by decide⟩
 ·cases h;exact⟨_,Tryz.func341,by kernel_rfl,by decide⟩
 ·cases h;exact⟨_,Tryz.func342,by kernel_rfl,by decide⟩
 ·cases h;exact⟨_,Tryz.func343,by kernel_rfl,by decide⟩
 ·cases h;exact⟨_,Tryz.func348,by kernel_rfl,by decide⟩
 ·cases h;exact⟨_,Tryz.func349,by kernel_rfl,by decide⟩
 ·cases h;exact⟨_,Tryz.func350,by kernel_rfl,by decide⟩
 ·cases h;exact⟨_,Tryz.func351,by kernel_rfl,by decide⟩
 ·cases h;exact⟨_,Tryz.func352,by kernel_rfl,by decide⟩
 ·cases h;exact⟨_,Tryz.func353,by kernel_rfl,by decide⟩
 ·cases h;exact⟨_,Tryz.func354,by kernel_rfl,by decide⟩
 ·cases h;exact⟨_,Tryz.func372,by kernel_rfl,by decide⟩
 ·cases h;exact⟨_,Tryz.func373,by kernel_rfl,by decide⟩
 ·cases h;exact⟨_,Tryz.func374,by kernel_rfl,by decide⟩
 ·cases h;exact⟨_,Tryz.func376,by kernel_rfl,by decide⟩
 ·cases h;exact⟨_,Tryz.func396,by kernel_rfl,by decide⟩
 ·cases h;exact⟨_,Tryz.func401,by kernel_rfl,by decide⟩
 ·cases h;exact⟨_,Tryz.func402,by kernel_rfl,by decide⟩
 ·cases h;exact⟨_,Tryz.func409,by kernel_rfl,by decide⟩
 ·cases h;exact⟨_,Tryz.func412,by kernel_rfl,by decide⟩
 ·cases h
end Go.Proofs.YtlaoookdegmnnaaGreatDoor
