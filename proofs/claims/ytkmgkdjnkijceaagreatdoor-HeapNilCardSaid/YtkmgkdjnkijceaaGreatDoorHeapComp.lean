/- The seat's code is the translation of the program's functions. -/
import Derived.Test.YtkmgkdjnkijceaaGreatDoorProg
import Derived.Test.YtkmgkdjnkijceaaGreatDoorHeapCode
import Derived.Test.YtkmgkdjnkijceaaGreatDoorAmRun
import Derived.KernelRfl
namespace Go.Proofs.YtkmgkdjnkijceaaGreatDoor
open Go.AM
set_option maxRecDepth 100000
theorem c3 : compFn Tryz.prog Tryz.f3 = some a3 := by kernel_rfl
theorem c4 : compFn Tryz.prog Tryz.f4 = some a4 := by kernel_rfl
theorem c5 : compFn Tryz.prog Tryz.f5 = some a5 := by kernel_rfl
theorem c6 : compFn Tryz.prog Tryz.f6 = some a6 := by kernel_rfl
theorem c7 : compFn Tryz.prog Tryz.f7 = some a7 := by kernel_rfl
theorem c8 : compFn Tryz.prog Tryz.f8 = some a8 := by kernel_rfl
theorem c9 : compFn Tryz.prog Tryz.f9 = some a9 := by kernel_rfl
theorem c10 : compFn Tryz.prog Tryz.f10 = some a10 := by kernel_rfl
theorem c11 : compFn Tryz.prog Tryz.f11 = some a11 := by kernel_rfl
theorem c12 : compFn Tryz.prog Tryz.f12 = some a12 := by kernel_rfl
theorem c13 : compFn Tryz.prog Tryz.f13 = some a13 := by kernel_rfl
theorem c14 : compFn Tryz.prog Tryz.f14 = some a14 := by kernel_rfl
theorem c15 : compFn Tryz.prog Tryz.f15 = some a15 := by kernel_rfl
theorem c17 : compFn Tryz.prog Tryz.f17 = some a17 := by kernel_rfl
theorem c18 : compFn Tryz.prog Tryz.f18 = some a18 := by kernel_rfl
theorem c19 : compFn Tryz.prog Tryz.f19 = some a19 := by kernel_rfl
theorem c20 : compFn Tryz.prog Tryz.f20 = some a20 := by kernel_rfl
theorem c21 : compFn Tryz.prog Tryz.f21 = some a21 := by kernel_rfl
theorem c22 : compFn Tryz.prog Tryz.f22 = some a22 := by kernel_rfl
theorem c23 : compFn Tryz.prog Tryz.f23 = some a23 := by kernel_rfl
theorem c24 : compFn Tryz.prog Tryz.f24 = some a24 := by kernel_rfl
theorem c25 : compFn Tryz.prog Tryz.f25 = some a25 := by kernel_rfl
theorem c26 : compFn Tryz.prog Tryz.f26 = some a26 := by kernel_rfl
theorem c27 : compFn Tryz.prog Tryz.f27 = some a27 := by kernel_rfl
theorem c28 : compFn Tryz.prog Tryz.f28 = some a28 := by kernel_rfl
theorem c29 : compFn Tryz.prog Tryz.f29 = some a29 := by kernel_rfl
theorem c30 : compFn Tryz.prog Tryz.f30 = some a30 := by kernel_rfl
theorem c34 : compFn Tryz.prog Tryz.f34 = some a34 := by kernel_rfl
theorem c35 : compFn Tryz.prog Tryz.f35 = some a35 := by kernel_rfl
theorem c40 : compFn Tryz.prog Tryz.f40 = some a40 := by kernel_rfl
theorem c41 : compFn Tryz.prog Tryz.f41 = some a41 := by kernel_rfl
theorem c43 : compFn Tryz.prog Tryz.f43 = some a43 := by kernel_rfl
theorem c44 : compFn Tryz.prog Tryz.f44 = some a44 := by kernel_rfl
theorem c45 : compFn Tryz.prog Tryz.f45 = some a45 := by kernel_rfl
theorem c46 : compFn Tryz.prog Tryz.f46 = some a46 := by kernel_rfl
theorem c47 : compFn Tryz.prog Tryz.f47 = some a47 := by kernel_rfl
theorem c49 : compFn Tryz.prog Tryz.f49 = some a49 := by kernel_rfl
theorem c50 : compFn Tryz.prog Tryz.f50 = some a50 := by kernel_rfl
theorem c51 : compFn Tryz.prog Tryz.f51 = some a51 := by kernel_rfl
theorem c52 : compFn Tryz.prog Tryz.f52 = some a52 := by kernel_rfl
theorem c53 : compFn Tryz.prog Tryz.f53 = some a53 := by kernel_rfl
theorem c54 : compFn Tryz.prog Tryz.f54 = some a54 := by kernel_rfl
theorem c55 : compFn Tryz.prog Tryz.f55 = some a55 := by kernel_rfl
theorem c56 : compFn Tryz.prog Tryz.f56 = some a56 := by kernel_rfl
theorem c58 : compFn Tryz.prog Tryz.f58 = some a58 := by kernel_rfl
theorem c68 : compFn Tryz.prog Tryz.f68 = some a68 := by kernel_rfl
theorem c69 : compFn Tryz.prog Tryz.f69 = some a69 := by kernel_rfl
theorem c70 : compFn Tryz.prog Tryz.f70 = some a70 := by kernel_rfl
theorem c71 : compFn Tryz.prog Tryz.f71 = some a71 := by kernel_rfl
theorem c72 : compFn Tryz.prog Tryz.f72 = some a72 := by kernel_rfl
theorem c73 : compFn Tryz.prog Tryz.f73 = some a73 := by kernel_rfl
theorem c78 : compFn Tryz.prog Tryz.f78 = some a78 := by kernel_rfl
theorem c79 : compFn Tryz.prog Tryz.f79 = some a79 := by kernel_rfl
theorem c80 : compFn Tryz.prog Tryz.f80 = some a80 := by kernel_rfl
theorem c81 : compFn Tryz.prog Tryz.f81 = some a81 := by kernel_rfl
theorem c85 : compFn Tryz.prog Tryz.f85 = some a85 := by kernel_rfl
theorem c86 : compFn Tryz.prog Tryz.f86 = some a86 := by kernel_rfl
theorem c87 : compFn Tryz.prog Tryz.f87 = some a87 := by kernel_rfl
theorem c88 : compFn Tryz.prog Tryz.f88 = some a88 := by kernel_rfl
theorem c89 : compFn Tryz.prog Tryz.f89 = some a89 := by kernel_rfl
theorem c90 : compFn Tryz.prog Tryz.f90 = some a90 := by kernel_rfl
theorem c96 : compFn Tryz.prog Tryz.f96 = some a96 := by kernel_rfl
theorem c97 : compFn Tryz.prog Tryz.f97 = some a97 := by kernel_rfl
theorem c98 : compFn Tryz.prog Tryz.f98 = some a98 := by kernel_rfl
theorem c99 : compFn Tryz.prog Tryz.f99 = some a99 := by kernel_rfl
theorem c100 : compFn Tryz.prog Tryz.f100 = some a100 := by kernel_rfl
theorem c106 : compFn Tryz.prog Tryz.f106 = some a106 := by kernel_rfl
theorem c107 : compFn Tryz.prog Tryz.f107 = some a107 := by kernel_rfl
theorem c108 : compFn Tryz.prog Tryz.f108 = some a108 := by kernel_rfl
theorem c109 : compFn Tryz.prog Tryz.f109 = some a109 := by kernel_rfl
theorem c111 : compFn Tryz.prog Tryz.f111 = some a111 := by kernel_rfl
theorem c112 : compFn Tryz.prog Tryz.f112 = some a112 := by kernel_rfl
theorem c113 : compFn Tryz.prog Tryz.f113 = some a113 := by kernel_rfl
theorem c125 : compFn Tryz.prog Tryz.f125 = some a125 := by kernel_rfl
theorem c126 : compFn Tryz.prog Tryz.f126 = some a126 := by kernel_rfl
theorem c127 : compFn Tryz.prog Tryz.f127 = some a127 := by kernel_rfl
theorem c128 : compFn Tryz.prog Tryz.f128 = some a128 := by kernel_rfl
theorem c129 : compFn Tryz.prog Tryz.f129 = some a129 := by kernel_rfl
theorem c130 : compFn Tryz.prog Tryz.f130 = some a130 := by kernel_rfl
theorem c131 : compFn Tryz.prog Tryz.f131 = some a131 := by kernel_rfl
theorem c132 : compFn Tryz.prog Tryz.f132 = some a132 := by kernel_rfl
theorem c133 : compFn Tryz.prog Tryz.f133 = some a133 := by kernel_rfl
theorem c134 : compFn Tryz.prog Tryz.f134 = some a134 := by kernel_rfl
theorem c135 : compFn Tryz.prog Tryz.f135 = some a135 := by kernel_rfl
theorem c136 : compFn Tryz.prog Tryz.f136 = some a136 := by kernel_rfl
theorem c138 : compFn Tryz.prog Tryz.f138 = some a138 := by kernel_rfl
theorem c141 : compFn Tryz.prog Tryz.f141 = some a141 := by kernel_rfl
theorem c142 : compFn Tryz.prog Tryz.f142 = some a142 := by kernel_rfl
theorem c146 : compFn Tryz.prog Tryz.f146 = some a146 := by kernel_rfl
theorem c147 : compFn Tryz.prog Tryz.f147 = some a147 := by kernel_rfl
theorem c148 : compFn Tryz.prog Tryz.f148 = some a148 := by kernel_rfl
theorem c149 : compFn Tryz.prog Tryz.f149 = some a149 := by kernel_rfl
theorem c153 : compFn Tryz.prog Tryz.f153 = some a153 := by kernel_rfl
theorem fns_ok : ∀ f afn, fns f = some afn → ∃ fn, Tryz.prog.funcs[f]? = some fn ∧ compFn Tryz.prog fn = some afn ∧ fn.name ≠ "runtime.NumGoroutine" := by
  intro f afn h
  unfold fns at h
  split at h
  · cases h; exact ⟨_, Tryz.func3, c3, by unfold Tryz.f3; decide⟩
  · cases h; exact ⟨_, Tryz.func4, c4, by unfold Tryz.f4; decide⟩
  · cases h; exact ⟨_, Tryz.func5, c5, by unfold Tryz.f5; decide⟩
  · cases h; exact ⟨_, Tryz.func6, c6, by unfold Tryz.f6; decide⟩
  · cases h; exact ⟨_, Tryz.func7, c7, by unfold Tryz.f7; decide⟩
  · cases h; exact ⟨_, Tryz.func8, c8, by unfold Tryz.f8; decide⟩
  · cases h; exact ⟨_, Tryz.func9, c9, by unfold Tryz.f9; decide⟩
  · cases h; exact ⟨_, Tryz.func10, c10, by unfold Tryz.f10; decide⟩
  · cases h; exact ⟨_, Tryz.func11, c11, by unfold Tryz.f11; decide⟩
  · cases h; exact ⟨_, Tryz.func12, c12, by unfold Tryz.f12; decide⟩
  · cases h; exact ⟨_, Tryz.func13, c13, by unfold Tryz.f13; decide⟩
  · cases h; exact ⟨_, Tryz.func14, c14, by unfold Tryz.f14; decide⟩
  · cases h; exact ⟨_, Tryz.func15, c15, by unfold Tryz.f15; decide⟩
  · cases h; exact ⟨_, Tryz.func17, c17, by unfold Tryz.f17; decide⟩
  · cases h; exact ⟨_, Tryz.func18, c18, by unfold Tryz.f18; decide⟩
  · cases h; exact ⟨_, Tryz.func19, c19, by unfold Tryz.f19; decide⟩
  · cases h; exact ⟨_, Tryz.func20, c20, by unfold Tryz.f20; decide⟩
  · cases h; exact ⟨_, Tryz.func21, c21, by unfold Tryz.f21; decide⟩
  · cases h; exact ⟨_, Tryz.func22, c22, by unfold Tryz.f22; decide⟩
  · cases h; exact ⟨_, Tryz.func23, c23, by unfold Tryz.f23; decide⟩
  · cases h; exact ⟨_, Tryz.func24, c24, by unfold Tryz.f24; decide⟩
  · cases h; exact ⟨_, Tryz.func25, c25, by unfold Tryz.f25; decide⟩
  · cases h; exact ⟨_, Tryz.func26, c26, by unfold Tryz.f26; decide⟩
  · cases h; exact ⟨_, Tryz.func27, c27, by unfold Tryz.f27; decide⟩
  · cases h; exact ⟨_, Tryz.func28, c28, by unfold Tryz.f28; decide⟩
  · cases h; exact ⟨_, Tryz.func29, c29, by unfold Tryz.f29; decide⟩
  · cases h; exact ⟨_, Tryz.func30, c30, by unfold Tryz.f30; decide⟩
  · cases h; exact ⟨_, Tryz.func34, c34, by unfold Tryz.f34; decide⟩
  · cases h; exact ⟨_, Tryz.func35, c35, by unfold Tryz.f35; decide⟩
  · cases h; exact ⟨_, Tryz.func40, c40, by unfold Tryz.f40; decide⟩
  · cases h; exact ⟨_, Tryz.func41, c41, by unfold Tryz.f41; decide⟩
  · cases h; exact ⟨_, Tryz.func43, c43, by unfold Tryz.f43; decide⟩
  · cases h; exact ⟨_, Tryz.func44, c44, by unfold Tryz.f44; decide⟩
  · cases h; exact ⟨_, Tryz.func45, c45, by unfold Tryz.f45; decide⟩
  · cases h; exact ⟨_, Tryz.func46, c46, by unfold Tryz.f46; decide⟩
  · cases h; exact ⟨_, Tryz.func47, c47, by unfold Tryz.f47; decide⟩
  · cases h; exact ⟨_, Tryz.func49, c49, by unfold Tryz.f49; decide⟩
  · cases h; exact ⟨_, Tryz.func50, c50, by unfold Tryz.f50; decide⟩
  · cases h; exact ⟨_, Tryz.func51, c51, by unfold Tryz.f51; decide⟩
  · cases h; exact ⟨_, Tryz.func52, c52, by unfold Tryz.f52; decide⟩
  · cases h; exact ⟨_, Tryz.func53, c53, by unfold Tryz.f53; decide⟩
  · cases h; exact ⟨_, Tryz.func54, c54, by unfold Tryz.f54; decide⟩
  · cases h; exact ⟨_, Tryz.func55, c55, by unfold Tryz.f55; decide⟩
  · cases h; exact ⟨_, Tryz.func56, c56, by unfold Tryz.f56; decide⟩
  · cases h; exact ⟨_, Tryz.func58, c58, by unfold Tryz.f58; decide⟩
  · cases h; exact ⟨_, Tryz.func68, c68, by unfold Tryz.f68; decide⟩
  · cases h; exact ⟨_, Tryz.func69, c69, by unfold Tryz.f69; decide⟩
  · cases h; exact ⟨_, Tryz.func70, c70, by unfold Tryz.f70; decide⟩
  · cases h; exact ⟨_, Tryz.func71, c71, by unfold Tryz.f71; decide⟩
  · cases h; exact ⟨_, Tryz.func72, c72, by unfold Tryz.f72; decide⟩
  · cases h; exact ⟨_, Tryz.func73, c73, by unfold Tryz.f73; decide⟩
  · cases h; exact ⟨_, Tryz.func78, c78, by unfold Tryz.f78; decide⟩
  · cases h; exact ⟨_, Tryz.func79, c79, by unfold Tryz.f79; decide⟩
  · cases h; exact ⟨_, Tryz.func80, c80, by unfold Tryz.f80; decide⟩
  · cases h; exact ⟨_, Tryz.func81, c81, by unfold Tryz.f81; decide⟩
  · cases h; exact ⟨_, Tryz.func85, c85, by unfold Tryz.f85; decide⟩
  · cases h; exact ⟨_, Tryz.func86, c86, by unfold Tryz.f86; decide⟩
  · cases h; exact ⟨_, Tryz.func87, c87, by unfold Tryz.f87; decide⟩
  · cases h; exact ⟨_, Tryz.func88, c88, by unfold Tryz.f88; decide⟩
  · cases h; exact ⟨_, Tryz.func89, c89, by unfold Tryz.f89; decide⟩
  · cases h; exact ⟨_, Tryz.func90, c90, by unfold Tryz.f90; decide⟩
  · cases h; exact ⟨_, Tryz.func96, c96, by unfold Tryz.f96; decide⟩
  · cases h; exact ⟨_, Tryz.func97, c97, by unfold Tryz.f97; decide⟩
  · cases h; exact ⟨_, Tryz.func98, c98, by unfold Tryz.f98; decide⟩
  · cases h; exact ⟨_, Tryz.func99, c99, by unfold Tryz.f99; decide⟩
  · cases h; exact ⟨_, Tryz.func100, c100, by unfold Tryz.f100; decide⟩
  · cases h; exact ⟨_, Tryz.func106, c106, by unfold Tryz.f106; decide⟩
  · cases h; exact ⟨_, Tryz.func107, c107, by unfold Tryz.f107; decide⟩
  · cases h; exact ⟨_, Tryz.func108, c108, by unfold Tryz.f108; decide⟩
  · cases h; exact ⟨_, Tryz.func109, c109, by unfold Tryz.f109; decide⟩
  · cases h; exact ⟨_, Tryz.func111, c111, by unfold Tryz.f111; decide⟩
  · cases h; exact ⟨_, Tryz.func112, c112, by unfold Tryz.f112; decide⟩
  · cases h; exact ⟨_, Tryz.func113, c113, by unfold Tryz.f113; decide⟩
  · cases h; exact ⟨_, Tryz.func125, c125, by unfold Tryz.f125; decide⟩
  · cases h; exact ⟨_, Tryz.func126, c126, by unfold Tryz.f126; decide⟩
  · cases h; exact ⟨_, Tryz.func127, c127, by unfold Tryz.f127; decide⟩
  · cases h; exact ⟨_, Tryz.func128, c128, by unfold Tryz.f128; decide⟩
  · cases h; exact ⟨_, Tryz.func129, c129, by unfold Tryz.f129; decide⟩
  · cases h; exact ⟨_, Tryz.func130, c130, by unfold Tryz.f130; decide⟩
  · cases h; exact ⟨_, Tryz.func131, c131, by unfold Tryz.f131; decide⟩
  · cases h; exact ⟨_, Tryz.func132, c132, by unfold Tryz.f132; decide⟩
  · cases h; exact ⟨_, Tryz.func133, c133, by unfold Tryz.f133; decide⟩
  · cases h; exact ⟨_, Tryz.func134, c134, by unfold Tryz.f134; decide⟩
  · cases h; exact ⟨_, Tryz.func135, c135, by unfold Tryz.f135; decide⟩
  · cases h; exact ⟨_, Tryz.func136, c136, by unfold Tryz.f136; decide⟩
  · cases h; exact ⟨_, Tryz.func138, c138, by unfold Tryz.f138; decide⟩
  · cases h; exact ⟨_, Tryz.func141, c141, by unfold Tryz.f141; decide⟩
  · cases h; exact ⟨_, Tryz.func142, c142, by unfold Tryz.f142; decide⟩
  · cases h; exact ⟨_, Tryz.func146, c146, by unfold Tryz.f146; decide⟩
  · cases h; exact ⟨_, Tryz.func147, c147, by unfold Tryz.f147; decide⟩
  · cases h; exact ⟨_, Tryz.func148, c148, by unfold Tryz.f148; decide⟩
  · cases h; exact ⟨_, Tryz.func149, c149, by unfold Tryz.f149; decide⟩
  · cases h; exact ⟨_, Tryz.func153, c153, by unfold Tryz.f153; decide⟩
  · cases h
end Go.Proofs.YtkmgkdjnkijceaaGreatDoor
