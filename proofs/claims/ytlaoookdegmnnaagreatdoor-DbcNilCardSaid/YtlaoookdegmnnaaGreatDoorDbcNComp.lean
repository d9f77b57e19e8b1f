/- The seat's code is the translation of the program's functions. -/
import Derived.Test.YtlaoookdegmnnaaGreatDoorProg
import Derived.Test.YtlaoookdegmnnaaGreatDoorDbcNCode
import Derived.Test.YtlaoookdegmnnaaGreatDoorAmRun
import Derived.KernelRfl
namespace Go.Proofs.YtlaoookdegmnnaaGreatDoor
open Go.AM
set_option maxRecDepth 100000
theorem c5 : compFn Tryz.prog Tryz.f5 = some a5 := by kernel_rfl
theorem c15 : compFn Tryz.prog Tryz.f15 = some a15 := by kernel_rfl
theorem c24 : compFn Tryz.prog Tryz.f24 = some a24 := by kernel_rfl
theorem c27 : compFn Tryz.prog Tryz.f27 = some a27 := by kernel_rfl
theorem c28 : compFn Tryz.prog Tryz.f28 = some a28 := by kernel_rfl
theorem c29 : compFn Tryz.prog Tryz.f29 = some a29 := by kernel_rfl
theorem c30 : compFn Tryz.prog Tryz.f30 = some a30 := by kernel_rfl
theorem c31 : compFn Tryz.prog Tryz.f31 = some a31 := by kernel_rfl
theorem c32 : compFn Tryz.prog Tryz.f32 = some a32 := by kernel_rfl
theorem c33 : compFn Tryz.prog Tryz.f33 = some a33 := by kernel_rfl
theorem c34 : compFn Tryz.prog Tryz.f34 = some a34 := by kernel_rfl
theorem c35 : compFn Tryz.prog Tryz.f35 = some a35 := by kernel_rfl
theorem c36 : compFn Tryz.prog Tryz.f36 = some a36 := by kernel_rfl
theorem c37 : compFn Tryz.prog Tryz.f37 = some a37 := by kernel_rfl
theorem c38 : compFn Tryz.prog Tryz.f38 = some a38 := by kernel_rfl
theorem c39 : compFn Tryz.prog Tryz.f39 = some a39 := by kernel_rfl
theorem c63 : compFn Tryz.prog Tryz.f63 = some a63 := by kernel_rfl
theorem c66 : compFn Tryz.prog Tryz.f66 = some a66 := by kernel_rfl
theorem c67 : compFn Tryz.prog Tryz.f67 = some a67 := by kernel_rfl
theorem c68 : compFn Tryz.prog Tryz.f68 = some a68 := by kernel_rfl
theorem c69 : compFn Tryz.prog Tryz.f69 = some a69 := by kernel_rfl
theorem c70 : compFn Tryz.prog Tryz.f70 = some a70 := by kernel_rfl
theorem c73 : compFn Tryz.prog Tryz.f73 = some a73 := by kernel_rfl
theorem c76 : compFn Tryz.prog Tryz.f76 = some a76 := by kernel_rfl
theorem c78 : compFn Tryz.prog Tryz.f78 = some a78 := by kernel_rfl
theorem c79 : compFn Tryz.prog Tryz.f79 = some a79 := by kernel_rfl
theorem c81 : compFn Tryz.prog Tryz.f81 = some a81 := by kernel_rfl
theorem c82 : compFn Tryz.prog Tryz.f82 = some a82 := by kernel_rfl
theorem c83 : compFn Tryz.prog Tryz.f83 = some a83 := by kernel_rfl
theorem c84 : compFn Tryz.prog Tryz.f84 = some a84 := by kernel_rfl
theorem c85 : compFn Tryz.prog Tryz.f85 = some a85 := by kernel_rfl
theorem c86 : compFn Tryz.prog Tryz.f86 = some a86 := by kernel_rfl
theorem c87 : compFn Tryz.prog Tryz.f87 = some a87 := by kernel_rfl
theorem c88 : compFn Tryz.prog Tryz.f88 = some a88 := by kernel_rfl
theorem c89 : compFn Tryz.prog Tryz.f89 = some a89 := by kernel_rfl
theorem c90 : compFn Tryz.prog Tryz.f90 = some a90 := by kernel_rfl
theorem c91 : compFn Tryz.prog Tryz.f91 = some a91 := by kernel_rfl
theorem c92 : compFn Tryz.prog Tryz.f92 = some a92 := by kernel_rfl
theorem c93 : compFn Tryz.prog Tryz.f93 = some a93 := by kernel_rfl
theorem c94 : compFn Tryz.prog Tryz.f94 = some a94 := by kernel_rfl
theorem c95 : compFn Tryz.prog Tryz.f95 = some a95 := by kernel_rfl
theorem c99 : compFn Tryz.prog Tryz.f99 = some a99 := by kernel_rfl
theorem c108 : compFn Tryz.prog Tryz.f108 = some a108 := by kernel_rfl
theorem c118 : compFn Tryz.prog Tryz.f118 = some a118 := by kernel_rfl
theorem c119 : compFn Tryz.prog Tryz.f119 = some a119 := by kernel_rfl
theorem c120 : compFn Tryz.prog Tryz.f120 = some a120 := by kernel_rfl
theorem c121 : compFn Tryz.prog Tryz.f121 = some a121 := by kernel_rfl
theorem c145 : compFn Tryz.prog Tryz.f145 = some a145 := by kernel_rfl
theorem c151 : compFn Tryz.prog Tryz.f151 = some a151 := by kernel_rfl
theorem c152 : compFn Tryz.prog Tryz.f152 = some a152 := by kernel_rfl
theorem c153 : compFn Tryz.prog Tryz.f153 = some a153 := by kernel_rfl
theorem c154 : compFn Tryz.prog Tryz.f154 = some a154 := by kernel_rfl
theorem c155 : compFn Tryz.prog Tryz.f155 = some a155 := by kernel_rfl
theorem c156 : compFn Tryz.prog Tryz.f156 = some a156 := by kernel_rfl
theorem c157 : compFn Tryz.prog Tryz.f157 = some a157 := by kernel_rfl
theorem c158 : compFn Tryz.prog Tryz.f158 = some a158 := by kernel_rfl
theorem c159 : compFn Tryz.prog Tryz.f159 = some a159 := by kernel_rfl
theorem c160 : compFn Tryz.prog Tryz.f160 = some a160 := by kernel_rfl
theorem c161 : compFn Tryz.prog Tryz.f161 = some a161 := by kernel_rfl
theorem c164 : compFn Tryz.prog Tryz.f164 = some a164 := by kernel_rfl
theorem c165 : compFn Tryz.prog Tryz.f165 = some a165 := by kernel_rfl
theorem c172 : compFn Tryz.prog Tryz.f172 = some a172 := by kernel_rfl
theorem c173 : compFn Tryz.prog Tryz.f173 = some a173 := by kernel_rfl
theorem c174 : compFn Tryz.prog Tryz.f174 = some a174 := by kernel_rfl
theorem c176 : compFn Tryz.prog Tryz.f176 = some a176 := by kernel_rfl
theorem c178 : compFn Tryz.prog Tryz.f178 = some a178 := by kernel_rfl
theorem c179 : compFn Tryz.prog Tryz.f179 = some a179 := by kernel_rfl
theorem c180 : compFn Tryz.prog Tryz.f180 = some a180 := by kernel_rfl
theorem c181 : compFn Tryz.prog Tryz.f181 = some a181 := by kernel_rfl
theorem c182 : compFn Tryz.prog Tryz.f182 = some a182 := by kernel_rfl
theorem c198 : compFn Tryz.prog Tryz.f198 = some a198 := by kernel_rfl
theorem c199 : compFn Tryz.prog Tryz.f199 = some a199 := by kernel_rfl
theorem c202 : compFn Tryz.prog Tryz.f202 = some a202 := by kernel_rfl
theorem c213 : compFn Tryz.prog Tryz.f213 = some a213 := by kernel_rfl
theorem c214 : compFn Tryz.prog Tryz.f214 = some a214 := by kernel_rfl
theorem c215 : compFn Tryz.prog Tryz.f215 = some a215 := by kernel_rfl
theorem c216 : compFn Tryz.prog Tryz.f216 = some a216 := by kernel_rfl
theorem c217 : compFn Tryz.prog Tryz.f217 = some a217 := by kernel_rfl
theorem c223 : compFn Tryz.prog Tryz.f223 = some a223 := by kernel_rfl
theorem c250 : compFn Tryz.prog Tryz.f250 = some a250 := by kernel_rfl
theorem c251 : compFn Tryz.prog Tryz.f251 = some a251 := by kernel_rfl
theorem c252 : compFn Tryz.prog Tryz.f252 = some a252 := by kernel_rfl
theorem c257 : compFn Tryz.prog Tryz.f257 = some a257 := by kernel_rfl
theorem c258 : compFn Tryz.prog Tryz.f258 = some a258 := by kernel_rfl
theorem c259 : compFn Tryz.prog Tryz.f259 = some a259 := by kernel_rfl
theorem c260 : compFn Tryz.prog Tryz.f260 = some a260 := by kernel_rfl
theorem c261 : compFn Tryz.prog Tryz.f261 = some a261 := by kernel_rfl
theorem c262 : compFn Tryz.prog Tryz.f262 = some a262 := by kernel_rfl
theorem c263 : compFn Tryz.prog Tryz.f263 = some a263 := by kernel_rfl
theorem c264 : compFn Tryz.prog Tryz.f264 = some a264 := by kernel_rfl
theorem c265 : compFn Tryz.prog Tryz.f265 = some a265 := by kernel_rfl
theorem c266 : compFn Tryz.prog Tryz.f266 = some a266 := by kernel_rfl
theorem c278 : compFn Tryz.prog Tryz.f278 = some a278 := by kernel_rfl
theorem c279 : compFn Tryz.prog Tryz.f279 = some a279 := by kernel_rfl
theorem c282 : compFn Tryz.prog Tryz.f282 = some a282 := by kernel_rfl
theorem c283 : compFn Tryz.prog Tryz.f283 = some a283 := by kernel_rfl
theorem c284 : compFn Tryz.prog Tryz.f284 = some a284 := by kernel_rfl
theorem c285 : compFn Tryz.prog Tryz.f285 = some a285 := by kernel_rfl
theorem c287 : compFn Tryz.prog Tryz.f287 = some a287 := by kernel_rfl
theorem c288 : compFn Tryz.prog Tryz.f288 = some a288 := by kernel_rfl
theorem c297 : compFn Tryz.prog Tryz.f297 = some a297 := by kernel_rfl
theorem c298 : compFn Tryz.prog Tryz.f298 = some a298 := by kernel_rfl
theorem c307 : compFn Tryz.prog Tryz.f307 = some a307 := by kernel_rfl
theorem c321 : compFn Tryz.prog Tryz.f321 = some a321 := by kernel_rfl
theorem c342 : compFn Tryz.prog Tryz.f342 = some a342 := by kernel_rfl
theorem c346 : compFn Tryz.prog Tryz.f346 = some a346 := by kernel_rfl
theorem c347 : compFn Tryz.prog Tryz.f347 = some a347 := by kernel_rfl
theorem c348 : compFn Tryz.prog Tryz.f348 = some a348 := by kernel_rfl
theorem c349 : compFn Tryz.prog Tryz.f349 = some a349 := by kernel_rfl
theorem c355 : compFn Tryz.prog Tryz.f355 = some a355 := by kernel_rfl
theorem c365 : compFn Tryz.prog Tryz.f365 = some a365 := by kernel_rfl
theorem c366 : compFn Tryz.prog Tryz.f366 = some a366 := by kernel_rfl
theorem c367 : compFn Tryz.prog Tryz.f367 = some a367 := by kernel_rfl
theorem c368 : compFn Tryz.prog Tryz.f368 = some a368 := by kernel_rfl
theorem c369 : compFn Tryz.prog Tryz.f369 = some a369 := by kernel_rfl
theorem c370 : compFn Tryz.prog Tryz.f370 = some a370 := by kernel_rfl
theorem c372 : compFn Tryz.prog Tryz.f372 = some a372 := by kernel_rfl
theorem c387 : compFn Tryz.prog Tryz.f387 = some a387 := by kernel_rfl
theorem c400 : compFn Tryz.prog Tryz.f400 = some a400 := by kernel_rfl
theorem c439 : compFn Tryz.prog Tryz.f439 = some a439 := by kernel_rfl
theorem c441 : compFn Tryz.prog Tryz.f441 = some a441 := by kernel_rfl
theorem fns_ok : ∀ f afn, fns f = some afn → ∃ fn, Tryz.prog.funcs[f]? = some fn ∧ compFn Tryz.prog fn = some afn ∧ fn.name ≠ "runtime.NumGoroutine" := by
  intro f afn h
  unfold fns at h
  split at h
  · cases h; exact ⟨_, Tryz.func5, c5, by unfold Tryz.f5; decide⟩
  · cases h; exact ⟨_, Tryz.func15, c15, by unfold Tryz.f15; decide⟩
  · cases h; exact ⟨_, Tryz.func24, c24, by unfold Tryz.f24; decide⟩
  · cases h; exact ⟨_, Tryz.func27, c27, by unfold Tryz.f27; decide⟩
  · cases h; exact ⟨_, Tryz.func28, c28, by unfold Tryz.f28; decide⟩
  · cases h; exact ⟨_, Tryz.func29, c29, by unfold Tryz.f29; decide⟩
  · cases h; exact ⟨_, Tryz.func30, c30, by unfold Tryz.f30; decide⟩
  · cases h; exact ⟨_, Tryz.func31, c31, by unfold Tryz.f31; decide⟩
  · cases h; exact ⟨_, Tryz.func32, c32, by unfold Tryz.f32; decide⟩
  · cases h; exact ⟨_, Tryz.func33, c33, by unfold Tryz.f33; decide⟩
  · cases h; exact ⟨_, Tryz.func34, c34, by unfold Tryz.f34; decide⟩
  · cases h; exact ⟨_, Tryz.func35, c35, by unfold Tryz.f35; decide⟩
  · cases h; exact ⟨_, Tryz.func36, c36, by unfold Tryz.f36; decide⟩
  · cases h; exact ⟨_, Tryz.func37, c37, by unfold Tryz.f37; decide⟩
  · cases h; exact ⟨_, Tryz.func38, c38, by unfold Tryz.f38; decide⟩
  · cases h; exact ⟨_, Tryz.func39, c39, by unfold Tryz.f39; decide⟩
  · cases h; exact ⟨_, Tryz.func63, c63, by unfold Tryz.f63; decide⟩
  · cases h; exact ⟨_, Tryz.func66, c66, by unfold Tryz.f66; decide⟩
  · cases h; exact ⟨_, Tryz.func67, c67, by unfold Tryz.f67; decide⟩
  · cases h; exact ⟨_, Tryz.func68, c68, by unfold Tryz.f68; decide⟩
  · cases h; exact ⟨_, Tryz.func69, c69, by unfold Tryz.f69; decide⟩
  · cases h; exact ⟨_, Tryz.func70, c70, by unfold Tryz.f70; decide⟩
  · cases h; exact ⟨_, Tryz.func73, c73, by unfold Tryz.f73; decide⟩
  · cases h; exact ⟨_, Tryz.func76, c76, by unfold Tryz.f76; decide⟩
  · cases h; exact ⟨_, Tryz.func78, c78, by unfold Tryz.f78; decide⟩
  · cases h; exact ⟨_, Tryz.func79, c79, by unfold Tryz.f79; decide⟩
  · cases h; exact ⟨_, Tryz.func81, c81, by unfold Tryz.f81; decide⟩
  · cases h; exact ⟨_, Tryz.func82, c82, by unfold Tryz.f82; decide⟩
  · cases h; exact ⟨_, Tryz.func83, c83, by unfold Tryz.f83; decide⟩
  · cases h; exact ⟨_, Tryz.func84, c84, by unfold Tryz.f84; decide⟩
  · cases h; exact ⟨_, Tryz.func85, c85, by unfold Tryz.f85; decide⟩
  · cases h; exact ⟨_, Tryz.func86, c86, by unfold Tryz.f86; decide⟩
  · cases h; exact ⟨_, Tryz.func87, c87, by unfold Tryz.f87; decide⟩
  · cases h; exact ⟨_, Tryz.func88, c88, by unfold Tryz.f88; decide⟩
  · cases h; exact ⟨_, Tryz.func89, c89, by unfold Tryz.f89; decide⟩
  · cases h; exact ⟨_, Tryz.func90, c90, by unfold Tryz.f90; decide⟩
  · cases h; exact ⟨_, Tryz.func91, c91, by unfold Tryz.f91; decide⟩
  · cases h; exact ⟨_, Tryz.func92, c92, by unfold Tryz.f92; decide⟩
  · cases h; exact ⟨_, Tryz.func93, c93, by unfold Tryz.f93; decide⟩
  · cases h; exact ⟨_, Tryz.func94, c94, by unfold Tryz.f94; decide⟩
  · cases h; exact ⟨_, Tryz.func95, c95, by unfold Tryz.f95; decide⟩
  · cases h; exact ⟨_, Tryz.func99, c99, by unfold Tryz.f99; decide⟩
  · cases h; exact ⟨_, Tryz.func108, c108, by unfold Tryz.f108; decide⟩
  · cases h; exact ⟨_, Tryz.func118, c118, by unfold Tryz.f118; decide⟩
  · cases h; exact ⟨_, Tryz.func119, c119, by unfold Tryz.f119; decide⟩
  · cases h; exact ⟨_, Tryz.func120, c120, by unfold Tryz.f120; decide⟩
  · cases h; exact ⟨_, Tryz.func121, c121, by unfold Tryz.f121; decide⟩
  · cases h; exact ⟨_, Tryz.func145, c145, by unfold Tryz.f145; decide⟩
  · cases h; exact ⟨_, Tryz.func151, c151, by unfold Tryz.f151; decide⟩
  · cases h; exact ⟨_, Tryz.func152, c152, by unfold Tryz.f152; decide⟩
  · cases h; exact ⟨_, Tryz.func153, c153, by unfold Tryz.f153; decide⟩
  · cases h; exact ⟨_, Tryz.func154, c154, by unfold Tryz.f154; decide⟩
  · cases h; exact ⟨_, Tryz.func155, c155, by unfold Tryz.f155; decide⟩
  · cases h; exact ⟨_, Tryz.func156, c156, by unfold Tryz.f156; decide⟩
  · cases h; exact ⟨_, Tryz.func157, c157, by unfold Tryz.f157; decide⟩
  · cases h; exact ⟨_, Tryz.func158, c158, by unfold Tryz.f158; decide⟩
  · cases h; exact ⟨_, Tryz.func159, c159, by unfold Tryz.f159; decide⟩
  · cases h; exact ⟨_, Tryz.func160, c160, by unfold Tryz.f160; decide⟩
  · cases h; exact ⟨_, Tryz.func161, c161, by unfold Tryz.f161; decide⟩
  · cases h; exact ⟨_, Tryz.func164, c164, by unfold Tryz.f164; decide⟩
  · cases h; exact ⟨_, Tryz.func165, c165, by unfold Tryz.f165; decide⟩
  · cases h; exact ⟨_, Tryz.func172, c172, by unfold Tryz.f172; decide⟩
  · cases h; exact ⟨_, Tryz.func173, c173, by unfold Tryz.f173; decide⟩
  · cases h; exact ⟨_, Tryz.func174, c174, by unfold Tryz.f174; decide⟩
  · cases h; exact ⟨_, Tryz.func176, c176, by unfold Tryz.f176; decide⟩
  · cases h; exact ⟨_, Tryz.func178, c178, by unfold Tryz.f178; decide⟩
  · cases h; exact ⟨_, Tryz.func179, c179, by unfold Tryz.f179; decide⟩
  · cases h; exact ⟨_, Tryz.func180, c180, by unfold Tryz.f180; decide⟩
  · cases h; exact ⟨_, Tryz.func181, c181, by unfold Tryz.f181; decide⟩
  · cases h; exact ⟨_, Tryz.func182, c182, by unfold Tryz.f182; decide⟩
  · cases h; exact ⟨_, Tryz.func198, c198, by unfold Tryz.f198; decide⟩
  · cases h; exact ⟨_, Tryz.func199, c199, by unfold Tryz.f199; decide⟩
  · cases h; exact ⟨_, Tryz.func202, c202, by unfold Tryz.f202; decide⟩
  · cases h; exact ⟨_, Tryz.func213, c213, by unfold Tryz.f213; decide⟩
  · cases h; exact ⟨_, Tryz.func214, c214, by unfold Tryz.f214; decide⟩
  · cases h; exact ⟨_, Tryz.func215, c215, by unfold Tryz.f215; decide⟩
  · cases h; exact ⟨_, Tryz.func216, c216, by unfold Tryz.f216; decide⟩
  · cases h; exact ⟨_, Tryz.func217, c217, by unfold Tryz.f217; decide⟩
  · cases h; exact ⟨_, Tryz.func223, c223, by unfold Tryz.f223; decide⟩
  · cases h; exact ⟨_, Tryz.func250, c250, by unfold Tryz.f250; decide⟩
  · cases h; exact ⟨_, Tryz.func251, c251, by unfold Tryz.f251; decide⟩
  · cases h; exact ⟨_, Tryz.func252, c252, by unfold Tryz.f252; decide⟩
  · cases h; exact ⟨_, Tryz.func257, c257, by unfold Tryz.f257; decide⟩
  · cases h; exact ⟨_, Tryz.func258, c258, by unfold Tryz.f258; decide⟩
  · cases h; exact ⟨_, Tryz.func259, c259, by unfold Tryz.f259; decide⟩
  · cases h; exact ⟨_, Tryz.func260, c260, by unfold Tryz.f260; decide⟩
  · cases h; exact ⟨_, Tryz.func261, c261, by unfold Tryz.f261; decide⟩
  · cases h; exact ⟨_, Tryz.func262, c262, by unfold Tryz.f262; decide⟩
  · cases h; exact ⟨_, Tryz.func263, c263, by unfold Tryz.f263; decide⟩
  · cases h; exact ⟨_, Tryz.func264, c264, by unfold Tryz.f264; decide⟩
  · cases h; exact ⟨_, Tryz.func265, c265, by unfold Tryz.f265; decide⟩
  · cases h; exact ⟨_, Tryz.func266, c266, by unfold Tryz.f266; decide⟩
  · cases h; exact ⟨_, Tryz.func278, c278, by unfold Tryz.f278; decide⟩
  · cases h; exact ⟨_, Tryz.func279, c279, by unfold Tryz.f279; decide⟩
  · cases h; exact ⟨_, Tryz.func282, c282, by unfold Tryz.f282; decide⟩
  · cases h; exact ⟨_, Tryz.func283, c283, by unfold Tryz.f283; decide⟩
  · cases h; exact ⟨_, Tryz.func284, c284, by unfold Tryz.f284; decide⟩
  · cases h; exact ⟨_, Tryz.func285, c285, by unfold Tryz.f285; decide⟩
  · cases h; exact ⟨_, Tryz.func287, c287, by unfold Tryz.f287; decide⟩
  · cases h; exact ⟨_, Tryz.func288, c288, by unfold Tryz.f288; decide⟩
  · cases h; exact ⟨_, Tryz.func297, c297, by unfold Tryz.f297; decide⟩
  · cases h; exact ⟨_, Tryz.func298, c298, by unfold Tryz.f298; decide⟩
  · cases h; exact ⟨_, Tryz.func307, c307, by unfold Tryz.f307; decide⟩
  · cases h; exact ⟨_, Tryz.func321, c321, by unfold Tryz.f321; decide⟩
  · cases h; exact ⟨_, Tryz.func342, c342, by unfold Tryz.f342; decide⟩
  · cases h; exact ⟨_, Tryz.func346, c346, by unfold Tryz.f346; decide⟩
  · cases h; exact ⟨_, Tryz.func347, c347, by unfold Tryz.f347; decide⟩
  · cases h; exact ⟨_, Tryz.func348, c348, by unfold Tryz.f348; decide⟩
  · cases h; exact ⟨_, Tryz.func349, c349, by unfold Tryz.f349; decide⟩
  · cases h; exact ⟨_, Tryz.func355, c355, by unfold Tryz.f355; decide⟩
  · cases h; exact ⟨_, Tryz.func365, c365, by unfold Tryz.f365; decide⟩
  · cases h; exact ⟨_, Tryz.func366, c366, by unfold Tryz.f366; decide⟩
  · cases h; exact ⟨_, Tryz.func367, c367, by unfold Tryz.f367; decide⟩
  · cases h; exact ⟨_, Tryz.func368, c368, by unfold Tryz.f368; decide⟩
  · cases h; exact ⟨_, Tryz.func369, c369, by unfold Tryz.f369; decide⟩
  · cases h; exact ⟨_, Tryz.func370, c370, by unfold Tryz.f370; decide⟩
  · cases h; exact ⟨_, Tryz.func372, c372, by unfold Tryz.f372; decide⟩
  · cases h; exact ⟨_, Tryz.func387, c387, by unfold Tryz.f387; decide⟩
  · cases h; exact ⟨_, Tryz.func400, c400, by unfold Tryz.f400; decide⟩
  · cases h; exact ⟨_, Tryz.func439, c439, by unfold Tryz.f439; decide⟩
  · cases h; exact ⟨_, Tryz.func441, c441, by unfold Tryz.f441; decide⟩
  · cases h
end Go.Proofs.YtlaoookdegmnnaaGreatDoor
