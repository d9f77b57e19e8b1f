/- The seat's code is the translation of the program's functions. -/
import Derived.Test.YtejlhgcheaimjaaGreatDoorProg
import Derived.Test.YtejlhgcheaimjaaGreatDoorRtCode
import Derived.Test.YtejlhgcheaimjaaGreatDoorAmRun
import Derived.KernelRfl
namespace Go.Proofs.YtejlhgcheaimjaaGreatDoor
open Go.AM
set_option maxRecDepth 100000
theorem c3 : compFn Tryz.prog Tryz.f3 = some a3 := by kernel_rfl
theorem c5 : compFn Tryz.prog Tryz.f5 = some a5 := by kernel_rfl
theorem c6 : compFn Tryz.prog Tryz.f6 = some a6 := by kernel_rfl
theorem c7 : compFn Tryz.prog Tryz.f7 = some a7 := by kernel_rfl
theorem c8 : compFn Tryz.prog Tryz.f8 = some a8 := by kernel_rfl
theorem c9 : compFn Tryz.prog Tryz.f9 = some a9 := by kernel_rfl
theorem c10 : compFn Tryz.prog Tryz.f10 = some a10 := by kernel_rfl
theorem c11 : compFn Tryz.prog Tryz.f11 = some a11 := by kernel_rfl
theorem c12 : compFn Tryz.prog Tryz.f12 = some a12 := by kernel_rfl
theorem c17 : compFn Tryz.prog Tryz.f17 = some a17 := by kernel_rfl
theorem c19 : compFn Tryz.prog Tryz.f19 = some a19 := by kernel_rfl
theorem c20 : compFn Tryz.prog Tryz.f20 = some a20 := by kernel_rfl
theorem c21 : compFn Tryz.prog Tryz.f21 = some a21 := by kernel_rfl
theorem c22 : compFn Tryz.prog Tryz.f22 = some a22 := by kernel_rfl
theorem c23 : compFn Tryz.prog Tryz.f23 = some a23 := by kernel_rfl
theorem c24 : compFn Tryz.prog Tryz.f24 = some a24 := by kernel_rfl
theorem c25 : compFn Tryz.prog Tryz.f25 = some a25 := by kernel_rfl
theorem c26 : compFn Tryz.prog Tryz.f26 = some a26 := by kernel_rfl
theorem c27 : compFn Tryz.prog Tryz.f27 = some a27 := by kernel_rfl
theorem c28 : compFn Tryz.prog Tryz.f28 = some a28 := by kernel_rfl
theorem c29 : compFn Tryz.prog Tryz.f29 = some a29 := by kernel_rfl
theorem c30 : compFn Tryz.prog Tryz.f30 = some a30 := by kernel_rfl
theorem c31 : compFn Tryz.prog Tryz.f31 = some a31 := by kernel_rfl
theorem c32 : compFn Tryz.prog Tryz.f32 = some a32 := by kernel_rfl
theorem c33 : compFn Tryz.prog Tryz.f33 = some a33 := by kernel_rfl
theorem c34 : compFn Tryz.prog Tryz.f34 = some a34 := by kernel_rfl
theorem c43 : compFn Tryz.prog Tryz.f43 = some a43 := by kernel_rfl
theorem c54 : compFn Tryz.prog Tryz.f54 = some a54 := by kernel_rfl
theorem c55 : compFn Tryz.prog Tryz.f55 = some a55 := by kernel_rfl
theorem c59 : compFn Tryz.prog Tryz.f59 = some a59 := by kernel_rfl
theorem c60 : compFn Tryz.prog Tryz.f60 = some a60 := by kernel_rfl
theorem c61 : compFn Tryz.prog Tryz.f61 = some a61 := by kernel_rfl
theorem c62 : compFn Tryz.prog Tryz.f62 = some a62 := by kernel_rfl
theorem c63 : compFn Tryz.prog Tryz.f63 = some a63 := by kernel_rfl
theorem c64 : compFn Tryz.prog Tryz.f64 = some a64 := by kernel_rfl
theorem c65 : compFn Tryz.prog Tryz.f65 = some a65 := by kernel_rfl
theorem c66 : compFn Tryz.prog Tryz.f66 = some a66 := by kernel_rfl
theorem c67 : compFn Tryz.prog Tryz.f67 = some a67 := by kernel_rfl
theorem c68 : compFn Tryz.prog Tryz.f68 = some a68 := by kernel_rfl
theorem c69 : compFn Tryz.prog Tryz.f69 = some a69 := by kernel_rfl
theorem c70 : compFn Tryz.prog Tryz.f70 = some a70 := by kernel_rfl
theorem c71 : compFn Tryz.prog Tryz.f71 = some a71 := by kernel_rfl
theorem c72 : compFn Tryz.prog Tryz.f72 = some a72 := by kernel_rfl
theorem c73 : compFn Tryz.prog Tryz.f73 = some a73 := by kernel_rfl
theorem c75 : compFn Tryz.prog Tryz.f75 = some a75 := by kernel_rfl
theorem c79 : compFn Tryz.prog Tryz.f79 = some a79 := by kernel_rfl
theorem c80 : compFn Tryz.prog Tryz.f80 = some a80 := by kernel_rfl
theorem c83 : compFn Tryz.prog Tryz.f83 = some a83 := by kernel_rfl
theorem c86 : compFn Tryz.prog Tryz.f86 = some a86 := by kernel_rfl
theorem c87 : compFn Tryz.prog Tryz.f87 = some a87 := by kernel_rfl
theorem c88 : compFn Tryz.prog Tryz.f88 = some a88 := by kernel_rfl
theorem c89 : compFn Tryz.prog Tryz.f89 = some a89 := by kernel_rfl
theorem c90 : compFn Tryz.prog Tryz.f90 = some a90 := by kernel_rfl
theorem c94 : compFn Tryz.prog Tryz.f94 = some a94 := by kernel_rfl
theorem c95 : compFn Tryz.prog Tryz.f95 = some a95 := by kernel_rfl
theorem c96 : compFn Tryz.prog Tryz.f96 = some a96 := by kernel_rfl
theorem c97 : compFn Tryz.prog Tryz.f97 = some a97 := by kernel_rfl
theorem c98 : compFn Tryz.prog Tryz.f98 = some a98 := by kernel_rfl
theorem c99 : compFn Tryz.prog Tryz.f99 = some a99 := by kernel_rfl
theorem c100 : compFn Tryz.prog Tryz.f100 = some a100 := by kernel_rfl
theorem c101 : compFn Tryz.prog Tryz.f101 = some a101 := by kernel_rfl
theorem c102 : compFn Tryz.prog Tryz.f102 = some a102 := by kernel_rfl
theorem c103 : compFn Tryz.prog Tryz.f103 = some a103 := by kernel_rfl
theorem c104 : compFn Tryz.prog Tryz.f104 = some a104 := by kernel_rfl
theorem c105 : compFn Tryz.prog Tryz.f105 = some a105 := by kernel_rfl
theorem c108 : compFn Tryz.prog Tryz.f108 = some a108 := by kernel_rfl
theorem c109 : compFn Tryz.prog Tryz.f109 = some a109 := by kernel_rfl
theorem c111 : compFn Tryz.prog Tryz.f111 = some a111 := by kernel_rfl
theorem c112 : compFn Tryz.prog Tryz.f112 = some a112 := by kernel_rfl
theorem c113 : compFn Tryz.prog Tryz.f113 = some a113 := by kernel_rfl
theorem c117 : compFn Tryz.prog Tryz.f117 = some a117 := by kernel_rfl
theorem c118 : compFn Tryz.prog Tryz.f118 = some a118 := by kernel_rfl
theorem c119 : compFn Tryz.prog Tryz.f119 = some a119 := by kernel_rfl
theorem c120 : compFn Tryz.prog Tryz.f120 = some a120 := by kernel_rfl
theorem c121 : compFn Tryz.prog Tryz.f121 = some a121 := by kernel_rfl
theorem c122 : compFn Tryz.prog Tryz.f122 = some a122 := by kernel_rfl
theorem c123 : compFn Tryz.prog Tryz.f123 = some a123 := by kernel_rfl
theorem c124 : compFn Tryz.prog Tryz.f124 = some a124 := by kernel_rfl
theorem c125 : compFn Tryz.prog Tryz.f125 = some a125 := by kernel_rfl
theorem c127 : compFn Tryz.prog Tryz.f127 = some a127 := by kernel_rfl
theorem c128 : compFn Tryz.prog Tryz.f128 = some a128 := by kernel_rfl
theorem c129 : compFn Tryz.prog Tryz.f129 = some a129 := by kernel_rfl
theorem c130 : compFn Tryz.prog Tryz.f130 = some a130 := by kernel_rfl
theorem c131 : compFn Tryz.prog Tryz.f131 = some a131 := by kernel_rfl
theorem c132 : compFn Tryz.prog Tryz.f132 = some a132 := by kernel_rfl
theorem c133 : compFn Tryz.prog Tryz.f133 = some a133 := by kernel_rfl
theorem c134 : compFn Tryz.prog Tryz.f134 = some a134 := by kernel_rfl
theorem c135 : compFn Tryz.prog Tryz.f135 = some a135 := by kernel_rfl
theorem c137 : compFn Tryz.prog Tryz.f137 = some a137 := by kernel_rfl
theorem c138 : compFn Tryz.prog Tryz.f138 = some a138 := by kernel_rfl
theorem c139 : compFn Tryz.prog Tryz.f139 = some a139 := by kernel_rfl
theorem c140 : compFn Tryz.prog Tryz.f140 = some a140 := by kernel_rfl
theorem c141 : compFn Tryz.prog Tryz.f141 = some a141 := by kernel_rfl
theorem c142 : compFn Tryz.prog Tryz.f142 = some a142 := by kernel_rfl
theorem c143 : compFn Tryz.prog Tryz.f143 = some a143 := by kernel_rfl
theorem c164 : compFn Tryz.prog Tryz.f164 = some a164 := by kernel_rfl
theorem c183 : compFn Tryz.prog Tryz.f183 = some a183 := by kernel_rfl
theorem fns_ok : ∀ f afn, fns f = some afn → ∃ fn, Tryz.prog.funcs[f]? = some fn ∧ compFn Tryz.prog fn = some afn ∧ fn.name ≠ "runtime.NumGoroutine" := by
  intro f afn h
  unfold fns at h
  split at h
  · cases h; exact ⟨_, Tryz.func3, c3, by unfold Tryz.f3; decide⟩
  · cases h; exact ⟨_, Tryz.func5, c5, by unfold Tryz.f5; decide⟩
  · cases h; exact ⟨_, Tryz.func6, c6, by unfold Tryz.f6; decide⟩
  · cases h; exact ⟨_, Tryz.func7, c7, by unfold Tryz.f7; decide⟩
  · cases h; exact ⟨_, Tryz.func8, c8, by unfold Tryz.f8; decide⟩
  · cases h; exact ⟨_, Tryz.func9, c9, by unfold Tryz.f9; decide⟩
  · cases h; exact ⟨_, Tryz.func10, c10, by unfold Tryz.f10; decide⟩
  · cases h; exact ⟨_, Tryz.func11, c11, by unfold Tryz.f11; decide⟩
  · cases h; exact ⟨_, Tryz.func12, c12, by unfold Tryz.f12; decide⟩
  · cases h; exact ⟨_, Tryz.func17, c17, by unfold Tryz.f17; decide⟩
  · cases h; exact ⟨_, Tryz.func19, c19, by unfold Tryz.f19; decide⟩
  · cases h; exact ⟨_, Tryz.func20, c20, by unfold Tryz.f20; decide⟩
  · cases h; exact ⟨_, Tryz.func21, c21, by unfold Tryz.f21; decide⟩
  · cases h; exact ⟨_, Tryz.func22, c22, by unfold Tryz.f22; decide⟩
  · cases h; exact ⟨_, Tryz.func23, c23, by unfold Tryz.f23; decide⟩
  · cases h; exact ⟨_, Tryz.func24, c24, by unfold Tryz.f24; decide⟩
  · cases h; exact ⟨_, Tryz.func25, c25, by unfold Tryz.f25; decide⟩
  · cases h; exact ⟨_, Tryz.func26, c26, by unfold Tryz.f26; decide⟩
  · cases h; exact ⟨_, Tryz.func27, c27, by unfold Tryz.f27; decide⟩
  · cases h; exact ⟨_, Tryz.func28, c28, by unfold Tryz.f28; decide⟩
  · cases h; exact ⟨_, Tryz.func29, c29, by unfold Tryz.f29; decide⟩
  · cases h; exact ⟨_, Tryz.func30, c30, by unfold Tryz.f30; decide⟩
  · cases h; exact ⟨_, Tryz.func31, c31, by unfold Tryz.f31; decide⟩
  · cases h; exact ⟨_, Tryz.func32, c32, by unfold Tryz.f32; decide⟩
  · cases h; exact ⟨_, Tryz.func33, c33, by unfold Tryz.f33; decide⟩
  · cases h; exact ⟨_, Tryz.func34, c34, by unfold Tryz.f34; decide⟩
  · cases h; exact ⟨_, Tryz.func43, c43, by unfold Tryz.f43; decide⟩
  · cases h; exact ⟨_, Tryz.func54, c54, by unfold Tryz.f54; decide⟩
  · cases h; exact ⟨_, Tryz.func55, c55, by unfold Tryz.f55; decide⟩
  · cases h; exact ⟨_, Tryz.func59, c59, by unfold Tryz.f59; decide⟩
  · cases h; exact ⟨_, Tryz.func60, c60, by unfold Tryz.f60; decide⟩
  · cases h; exact ⟨_, Tryz.func61, c61, by unfold Tryz.f61; decide⟩
  · cases h; exact ⟨_, Tryz.func62, c62, by unfold Tryz.f62; decide⟩
  · cases h; exact ⟨_, Tryz.func63, c63, by unfold Tryz.f63; decide⟩
  · cases h; exact ⟨_, Tryz.func64, c64, by unfold Tryz.f64; decide⟩
  · cases h; exact ⟨_, Tryz.func65, c65, by unfold Tryz.f65; decide⟩
  · cases h; exact ⟨_, Tryz.func66, c66, by unfold Tryz.f66; decide⟩
  · cases h; exact ⟨_, Tryz.func67, c67, by unfold Tryz.f67; decide⟩
  · cases h; exact ⟨_, Tryz.func68, c68, by unfold Tryz.f68; decide⟩
  · cases h; exact ⟨_, Tryz.func69, c69, by unfold Tryz.f69; decide⟩
  · cases h; exact ⟨_, Tryz.func70, c70, by unfold Tryz.f70; decide⟩
  · cases h; exact ⟨_, Tryz.func71, c71, by unfold Tryz.f71; decide⟩
  · cases h; exact ⟨_, Tryz.func72, c72, by unfold Tryz.f72; decide⟩
  · cases h; exact ⟨_, Tryz.func73, c73, by unfold Tryz.f73; decide⟩
  · cases h; exact ⟨_, Tryz.func75, c75, by unfold Tryz.f75; decide⟩
  · cases h; exact ⟨_, Tryz.func79, c79, by unfold Tryz.f79; decide⟩
  · cases h; exact ⟨_, Tryz.func80, c80, by unfold Tryz.f80; decide⟩
  · cases h; exact ⟨_, Tryz.func83, c83, by unfold Tryz.f83; decide⟩
  · cases h; exact ⟨_, Tryz.func86, c86, by unfold Tryz.f86; decide⟩
  · cases h; exact ⟨_, Tryz.func87, c87, by unfold Tryz.f87; decide⟩
  · cases h; exact ⟨_, Tryz.func88, c88, by unfold Tryz.f88; decide⟩
  · cases h; exact ⟨_, Tryz.func89, c89, by unfold Tryz.f89; decide⟩
  · cases h; exact ⟨_, Tryz.func90, c90, by unfold Tryz.f90; decide⟩
  · cases h; exact ⟨_, Tryz.func94, c94, by unfold Tryz.f94; decide⟩
  · cases h; exact ⟨_, Tryz.func95, c95, by unfold Tryz.f95; decide⟩
  · cases h; exact ⟨_, Tryz.func96, c96, by unfold Tryz.f96; decide⟩
  · cases h; exact ⟨_, Tryz.func97, c97, by unfold Tryz.f97; decide⟩
  · cases h; exact ⟨_, Tryz.func98, c98, by unfold Tryz.f98; decide⟩
  · cases h; exact ⟨_, Tryz.func99, c99, by unfold Tryz.f99; decide⟩
  · cases h; exact ⟨_, Tryz.func100, c100, by unfold Tryz.f100; decide⟩
  · cases h; exact ⟨_, Tryz.func101, c101, by unfold Tryz.f101; decide⟩
  · cases h; exact ⟨_, Tryz.func102, c102, by unfold Tryz.f102; decide⟩
  · cases h; exact ⟨_, Tryz.func103, c103, by unfold Tryz.f103; decide⟩
  · cases h; exact ⟨_, Tryz.func104, c104, by unfold Tryz.f104; decide⟩
  · cases h; exact ⟨_, Tryz.func105, c105, by unfold Tryz.f105; decide⟩
  · cases h; exact ⟨_, Tryz.func108, c108, by unfold Tryz.f108; decide⟩
  · cases h; exact ⟨_, Tryz.func109, c109, by unfold Tryz.f109; decide⟩
  · cases h; exact ⟨_, Tryz.func111, c111, by unfold Tryz.f111; decide⟩
  · cases h; exact ⟨_, Tryz.func112, c112, by unfold Tryz.f112; decide⟩
  · cases h; exact ⟨_, Tryz.func113, c113, by unfold Tryz.f113; decide⟩
  · cases h; exact ⟨_, Tryz.func117, c117, by unfold Tryz.f117; decide⟩
  · cases h; exact ⟨_, Tryz.func118, c118, by unfold Tryz.f118; decide⟩
  · cases h; exact ⟨_, Tryz.func119, c119, by unfold Tryz.f119; decide⟩
  · cases h; exact ⟨_, Tryz.func120, c120, by unfold Tryz.f120; decide⟩
  · cases h; exact ⟨_, Tryz.func121, c121, by unfold Tryz.f121; decide⟩
  · cases h; exact ⟨_, Tryz.func122, c122, by unfold Tryz.f122; decide⟩
  · cases h; exact ⟨_, Tryz.func123, c123, by unfold Tryz.f123; decide⟩
  · cases h; exact ⟨_, Tryz.func124, c124, by unfold Tryz.f124; decide⟩
  · cases h; exact ⟨_, Tryz.func125, c125, by unfold Tryz.f125; decide⟩
  · cases h; exact ⟨_, Tryz.func127, c127, by unfold Tryz.f127; decide⟩
  · cases h; exact ⟨_, Tryz.func128, c128, by unfold Tryz.f128; decide⟩
  · cases h; exact ⟨_, Tryz.func129, c129, by unfold Tryz.f129; decide⟩
  · cases h; exact ⟨_, Tryz.func130, c130, by unfold Tryz.f130; decide⟩
  · cases h; exact ⟨_, Tryz.func131, c131, by unfold Tryz.f131; decide⟩
  · cases h; exact ⟨_, Tryz.func132, c132, by unfold Tryz.f132; decide⟩
  · cases h; exact ⟨_, Tryz.func133, c133, by unfold Tryz.f133; decide⟩
  · cases h; exact ⟨_, Tryz.func134, c134, by unfold Tryz.f134; decide⟩
  · cases h; exact ⟨_, Tryz.func135, c135, by unfold Tryz.f135; decide⟩
  · cases h; exact ⟨_, Tryz.func137, c137, by unfold Tryz.f137; decide⟩
  · cases h; exact ⟨_, Tryz.func138, c138, by unfold Tryz.f138; decide⟩
  · cases h; exact ⟨_, Tryz.func139, c139, by unfold Tryz.f139; decide⟩
  · cases h; exact ⟨_, Tryz.func140, c140, by unfold Tryz.f140; decide⟩
  · cases h; exact ⟨_, Tryz.func141, c141, by unfold Tryz.f141; decide⟩
  · cases h; exact ⟨_, Tryz.func142, c142, by unfold Tryz.f142; decide⟩
  · cases h; exact ⟨_, Tryz.func143, c143, by unfold Tryz.f143; decide⟩
  · cases h; exact ⟨_, Tryz.func164, c164, by unfold Tryz.f164; decide⟩
  · cases h; exact ⟨_, Tryz.func183, c183, by unfold Tryz.f183; decide⟩
  · cases h
end Go.Proofs.YtejlhgcheaimjaaGreatDoor
