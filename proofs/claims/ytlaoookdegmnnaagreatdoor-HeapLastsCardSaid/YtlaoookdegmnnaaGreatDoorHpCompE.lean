/- The code of these functions is the translation of the program's. -/
import Derived.Test.YtlaoookdegmnnaaGreatDoorHpComp
import Derived.Test.YtlaoookdegmnnaaGreatDoorHpCodeE
set_option maxRecDepth 100000
namespace Go.Proofs.YtlaoookdegmnnaaGreatDoor
open Go.AM
theorem c67:compFn Tryz.prog Tryz.f67=some a67:=by kernel_rfl
theorem c153:compFn Tryz.prog Tryz.f153=some a153:=by kernel_rfl
theorem c257:compFn Tryz.prog Tryz.f257=some a257:=by kernel_rfl
theorem c441:compFn Tryz.prog Tryz.f441=some a441:=by kernel_rfl
theorem fnsE_ok (f:Nat) (afn:AFn) (h:fnsE f=some afn):∃ fn,Tryz.prog.funcs[f]?=some fn∧compFn Tryz.prog fn=some afn∧fn.name ≠ "runtime.NumGoroutine":=by
 unfold fnsE at h
 split at h
 ·cases h;exact⟨_,Tryz.func67,c67,by decide⟩
 ·cases h;exact⟨_,Tryz.func153,c153,by decide⟩
 ·cases h;exact⟨_,Tryz.func257,c257,by decide⟩
 ·cases h;exact⟨_,Tryz.func441,c441,by decide⟩
 ·exact fns_ok f afn h
theorem fnsK_ok (f:Nat) (afn:AFn) (h:fnsK f=some afn):∃ fn,Tryz.prog.funcs[f]?=some fn∧compFn Tryz.prog fn=some afn∧fn.name ≠ "runtime.NumGoroutine":=by
 unfold fnsK at h
 cases hb:Nat.beq f 172||Nat.beq f 156 with
 | true=>rw[hb] at h;cases h
 | false=>rw[hb] at h;exact fnsE_ok f afn h
end Go.Proofs.YtlaoookdegmnnaaGreatDoor
