/- The seat's code is the translation of the program's functions. -/
import Derived.Test.YtlaoookdegmnnaaGreatDoorProg
import Derived.Test.YtlaoookdegmnnaaGreatDoorDbbNCode
import Derived.Test.YtlaoookdegmnnaaGreatDoorAmRun
import Derived.KernelRfl
namespace Go.Proofs.YtlaoookdegmnnaaGreatDoor
open Go.AM
set_option maxRecDepth 100000
theorem c9 : compFn Tryz.prog Tryz.f9 = some a9 := by kernel_rfl
theorem c46 : compFn Tryz.prog Tryz.f46 = some a46 := by kernel_rfl
theorem c47 : compFn Tryz.prog Tryz.f47 = some a47 := by kernel_rfl
theorem c48 : compFn Tryz.prog Tryz.f48 = some a48 := by kernel_rfl
theorem c49 : compFn Tryz.prog Tryz.f49 = some a49 := by kernel_rfl
theorem c50 : compFn Tryz.prog Tryz.f50 = some a50 := by kernel_rfl
theorem c51 : compFn Tryz.prog Tryz.f51 = some a51 := by kernel_rfl
theorem c52 : compFn Tryz.prog Tryz.f52 = some a52 := by kernel_rfl
theorem c53 : compFn Tryz.prog Tryz.f53 = some a53 := by kernel_rfl
theorem c54 : compFn Tryz.prog Tryz.f54 = some a54 := by kernel_rfl
theorem c55 : compFn Tryz.prog Tryz.f55 = some a55 := by kernel_rfl
theorem c56 : compFn Tryz.prog Tryz.f56 = some a56 := by kernel_rfl
theorem c57 : compFn Tryz.prog Tryz.f57 = some a57 := by kernel_rfl
theorem c63 : compFn Tryz.prog Tryz.f63 = some a63 := by kernel_rfl
theorem c67 : compFn Tryz.prog Tryz.f67 = some a67 := by kernel_rfl
theorem c68 : compFn Tryz.prog Tryz.f68 = some a68 := by kernel_rfl
theorem c78 : compFn Tryz.prog Tryz.f78 = some a78 := by kernel_rfl
theorem c79 : compFn Tryz.prog Tryz.f79 = some a79 := by kernel_rfl
theorem c81 : compFn Tryz.prog Tryz.f81 = some a81 := by kernel_rfl
theorem c82 : compFn Tryz.prog Tryz.f82 = some a82 := by kernel_rfl
theorem c84 : compFn Tryz.prog Tryz.f84 = some a84 := by kernel_rfl
theorem c85 : compFn Tryz.prog Tryz.f85 = some a85 := by kernel_rfl
theorem c89 : compFn Tryz.prog Tryz.f89 = some a89 := by kernel_rfl
theorem c90 : compFn Tryz.prog Tryz.f90 = some a90 := by kernel_rfl
theorem c92 : compFn Tryz.prog Tryz.f92 = some a92 := by kernel_rfl
theorem c94 : compFn Tryz.prog Tryz.f94 = some a94 := by kernel_rfl
theorem c96 : compFn Tryz.prog Tryz.f96 = some a96 := by kernel_rfl
theorem c108 : compFn Tryz.prog Tryz.f108 = some a108 := by kernel_rfl
theorem c110 : compFn Tryz.prog Tryz.f110 = some a110 := by kernel_rfl
theorem c111 : compFn Tryz.prog Tryz.f111 = some a111 := by kernel_rfl
theorem c112 : compFn Tryz.prog Tryz.f112 = some a112 := by kernel_rfl
theorem c113 : compFn Tryz.prog Tryz.f113 = some a113 := by kernel_rfl
theorem c114 : compFn Tryz.prog Tryz.f114 = some a114 := by kernel_rfl
theorem c115 : compFn Tryz.prog Tryz.f115 = some a115 := by kernel_rfl
theorem c116 : compFn Tryz.prog Tryz.f116 = some a116 := by kernel_rfl
theorem c117 : compFn Tryz.prog Tryz.f117 = some a117 := by kernel_rfl
theorem c118 : compFn Tryz.prog Tryz.f118 = some a118 := by kernel_rfl
theorem c119 : compFn Tryz.prog Tryz.f119 = some a119 := by kernel_rfl
theorem c120 : compFn Tryz.prog Tryz.f120 = some a120 := by kernel_rfl
theorem c121 : compFn Tryz.prog Tryz.f121 = some a121 := by kernel_rfl
theorem c122 : compFn Tryz.prog Tryz.f122 = some a122 := by kernel_rfl
theorem c123 : compFn Tryz.prog Tryz.f123 = some a123 := by kernel_rfl
theorem c124 : compFn Tryz.prog Tryz.f124 = some a124 := by kernel_rfl
theorem c125 : compFn Tryz.prog Tryz.f125 = some a125 := by kernel_rfl
theorem c127 : compFn Tryz.prog Tryz.f127 = some a127 := by kernel_rfl
theorem c128 : compFn Tryz.prog Tryz.f128 = some a128 := by kernel_rfl
theorem c132 : compFn Tryz.prog Tryz.f132 = some a132 := by kernel_rfl
theorem c133 : compFn Tryz.prog Tryz.f133 = some a133 := by kernel_rfl
theorem c134 : compFn Tryz.prog Tryz.f134 = some a134 := by kernel_rfl
theorem c145 : compFn Tryz.prog Tryz.f145 = some a145 := by kernel_rfl
theorem c151 : compFn Tryz.prog Tryz.f151 = some a151 := by kernel_rfl
theorem c152 : compFn Tryz.prog Tryz.f152 = some a152 := by kernel_rfl
theorem c153 : compFn Tryz.prog Tryz.f153 = some a153 := by kernel_rfl
theorem c154 : compFn Tryz.prog Tryz.f154 = some a154 := by kernel_rfl
theorem c155 : compFn Tryz.prog Tryz.f155 = some a155 := by kernel_rfl
theorem c156 : compFn Tryz.prog Tryz.f156 = some a156 := by kernel_rfl
theorem c158 : compFn Tryz.prog Tryz.f158 = some a158 := by kernel_rfl
theorem c159 : compFn Tryz.prog Tryz.f159 = some a159 := by kernel_rfl
theorem c160 : compFn Tryz.prog Tryz.f160 = some a160 := by kernel_rfl
theorem c161 : compFn Tryz.prog Tryz.f161 = some a161 := by kernel_rfl
theorem c164 : compFn Tryz.prog Tryz.f164 = some a164 := by kernel_rfl
theorem c165 : compFn Tryz.prog Tryz.f165 = some a165 := by kernel_rfl
theorem c172 : compFn Tryz.prog Tryz.f172 = some a172 := by kernel_rfl
theorem c173 : compFn Tryz.prog Tryz.f173 = some a173 := by kernel_rfl
theorem c174 : compFn Tryz.prog Tryz.f174 = some a174 := by kernel_rfl
theorem c181 : compFn Tryz.prog Tryz.f181 = some a181 := by kernel_rfl
theorem c183 : compFn Tryz.prog Tryz.f183 = some a183 := by kernel_rfl
theorem c199 : compFn Tryz.prog Tryz.f199 = some a199 := by kernel_rfl
theorem c202 : compFn Tryz.prog Tryz.f202 = some a202 := by kernel_rfl
theorem c204 : compFn Tryz.prog Tryz.f204 = some a204 := by kernel_rfl
theorem c207 : compFn Tryz.prog Tryz.f207 = some a207 := by kernel_rfl
theorem c208 : compFn Tryz.prog Tryz.f208 = some a208 := by kernel_rfl
theorem c209 : compFn Tryz.prog Tryz.f209 = some a209 := by kernel_rfl
theorem c210 : compFn Tryz.prog Tryz.f210 = some a210 := by kernel_rfl
theorem c211 : compFn Tryz.prog Tryz.f211 = some a211 := by kernel_rfl
theorem c212 : compFn Tryz.prog Tryz.f212 = some a212 := by kernel_rfl
theorem c213 : compFn Tryz.prog Tryz.f213 = some a213 := by kernel_rfl
theorem c214 : compFn Tryz.prog Tryz.f214 = some a214 := by kernel_rfl
theorem c215 : compFn Tryz.prog Tryz.f215 = some a215 := by kernel_rfl
theorem c216 : compFn Tryz.prog Tryz.f216 = some a216 := by kernel_rfl
theorem c217 : compFn Tryz.prog Tryz.f217 = some a217 := by kernel_rfl
theorem c219 : compFn Tryz.prog Tryz.f219 = some a219 := by kernel_rfl
theorem c220 : compFn Tryz.prog Tryz.f220 = some a220 := by kernel_rfl
theorem c221 : compFn Tryz.prog Tryz.f221 = some a221 := by kernel_rfl
theorem c222 : compFn Tryz.prog Tryz.f222 = some a222 := by kernel_rfl
theorem c223 : compFn Tryz.prog Tryz.f223 = some a223 := by kernel_rfl
theorem c226 : compFn Tryz.prog Tryz.f226 = some a226 := by kernel_rfl
theorem c227 : compFn Tryz.prog Tryz.f227 = some a227 := by kernel_rfl
theorem c250 : compFn Tryz.prog Tryz.f250 = some a250 := by kernel_rfl
theorem c251 : compFn Tryz.prog Tryz.f251 = some a251 := by kernel_rfl
theorem c252 : compFn Tryz.prog Tryz.f252 = some a252 := by kernel_rfl
theorem c253 : compFn Tryz.prog Tryz.f253 = some a253 := by kernel_rfl
theorem c257 : compFn Tryz.prog Tryz.f257 = some a257 := by kernel_rfl
theorem c258 : compFn Tryz.prog Tryz.f258 = some a258 := by kernel_rfl
theorem c259 : compFn Tryz.prog Tryz.f259 = some a259 := by kernel_rfl
theorem c260 : compFn Tryz.prog Tryz.f260 = some a260 := by kernel_rfl
theorem c262 : compFn Tryz.prog Tryz.f262 = some a262 := by kernel_rfl
theorem c263 : compFn Tryz.prog Tryz.f263 = some a263 := by kernel_rfl
theorem c264 : compFn Tryz.prog Tryz.f264 = some a264 := by kernel_rfl
theorem c265 : compFn Tryz.prog Tryz.f265 = some a265 := by kernel_rfl
theorem c266 : compFn Tryz.prog Tryz.f266 = some a266 := by kernel_rfl
theorem c278 : compFn Tryz.prog Tryz.f278 = some a278 := by kernel_rfl
theorem c279 : compFn Tryz.prog Tryz.f279 = some a279 := by kernel_rfl
theorem c287 : compFn Tryz.prog Tryz.f287 = some a287 := by kernel_rfl
theorem c289 : compFn Tryz.prog Tryz.f289 = some a289 := by kernel_rfl
theorem c297 : compFn Tryz.prog Tryz.f297 = some a297 := by kernel_rfl
theorem c299 : compFn Tryz.prog Tryz.f299 = some a299 := by kernel_rfl
theorem c301 : compFn Tryz.prog Tryz.f301 = some a301 := by kernel_rfl
theorem c302 : compFn Tryz.prog Tryz.f302 = some a302 := by kernel_rfl
theorem c303 : compFn Tryz.prog Tryz.f303 = some a303 := by kernel_rfl
theorem c304 : compFn Tryz.prog Tryz.f304 = some a304 := by kernel_rfl
theorem c305 : compFn Tryz.prog Tryz.f305 = some a305 := by kernel_rfl
theorem c306 : compFn Tryz.prog Tryz.f306 = some a306 := by kernel_rfl
theorem c307 : compFn Tryz.prog Tryz.f307 = some a307 := by kernel_rfl
theorem c309 : compFn Tryz.prog Tryz.f309 = some a309 := by kernel_rfl
theorem c310 : compFn Tryz.prog Tryz.f310 = some a310 := by kernel_rfl
theorem c311 : compFn Tryz.prog Tryz.f311 = some a311 := by kernel_rfl
theorem c312 : compFn Tryz.prog Tryz.f312 = some a312 := by kernel_rfl
theorem c321 : compFn Tryz.prog Tryz.f321 = some a321 := by kernel_rfl
theorem c342 : compFn Tryz.prog Tryz.f342 = some a342 := by kernel_rfl
theorem c346 : compFn Tryz.prog Tryz.f346 = some a346 := by kernel_rfl
theorem c347 : compFn Tryz.prog Tryz.f347 = some a347 := by kernel_rfl
theorem c348 : compFn Tryz.prog Tryz.f348 = some a348 := by kernel_rfl
theorem c349 : compFn Tryz.prog Tryz.f349 = some a349 := by kernel_rfl
theorem c355 : compFn Tryz.prog Tryz.f355 = some a355 := by kernel_rfl
theorem c372 : compFn Tryz.prog Tryz.f372 = some a372 := by kernel_rfl
theorem c377 : compFn Tryz.prog Tryz.f377 = some a377 := by kernel_rfl
theorem c387 : compFn Tryz.prog Tryz.f387 = some a387 := by kernel_rfl
theorem c439 : compFn Tryz.prog Tryz.f439 = some a439 := by kernel_rfl
theorem c441 : compFn Tryz.prog Tryz.f441 = some a441 := by kernel_rfl
theorem fns_ok : ∀ f afn, fns f = some afn → ∃ fn, Tryz.prog.funcs[f]? = some fn ∧ compFn Tryz.prog fn = some afn ∧ fn.name ≠ "runtime.NumGoroutine" := by
  intro f afn h
  unfold fns at h
  split at h
  · cases h; exact ⟨_, Tryz.func9, c9, by unfold Tryz.f9; decide⟩
  · cases h; exact ⟨_, Tryz.func46, c46, by unfold Tryz.f46; decide⟩
  · cases h; exact ⟨_, Tryz.func47, c47, by unfold Tryz.f47; decide⟩
  · cases h; exact ⟨_, Tryz.func48, c48, by unfold Tryz.f48; decide⟩
  · cases h; exact ⟨_, Tryz.func49, c49, by unfold Tryz.f49; decide⟩
  · cases h; exact ⟨_, Tryz.func50, c50, by unfold Tryz.f50; decide⟩
  · cases h; exact ⟨_, Tryz.func51, c51, by unfold Tryz.f51; decide⟩
  · cases h; exact ⟨_, Tryz.func52, c52, by unfold Tryz.f52; decide⟩
  · cases h; exact ⟨_, Tryz.func53, c53, by unfold Tryz.f53; decide⟩
  · cases h; exact ⟨_, Tryz.func54, c54, by unfold Tryz.f54; decide⟩
  · cases h; exact ⟨_, Tryz.func55, c55, by unfold Tryz.f55; decide⟩
  · cases h; exact ⟨_, Tryz.func56, c56, by unfold Tryz.f56; decide⟩
  · cases h; exact ⟨_, Tryz.func57, c57, by unfold Tryz.f57; decide⟩
  · cases h; exact ⟨_, Tryz.func63, c63, by unfold Tryz.f63; decide⟩
  · cases h; exact ⟨_, Tryz.func67, c67, by unfold Tryz.f67; decide⟩
  · cases h; exact ⟨_, Tryz.func68, c68, by unfold Tryz.f68; decide⟩
  · cases h; exact ⟨_, Tryz.func78, c78, by unfold Tryz.f78; decide⟩
  · cases h; exact ⟨_, Tryz.func79, c79, by unfold Tryz.f79; decide⟩
  · cases h; exact ⟨_, Tryz.func81, c81, by unfold Tryz.f81; decide⟩
  · cases h; exact ⟨_, Tryz.func82, c82, by unfold Tryz.f82; decide⟩
  · cases h; exact ⟨_, Tryz.func84, c84, by unfold Tryz.f84; decide⟩
  · cases h; exact ⟨_, Tryz.func85, c85, by unfold Tryz.f85; decide⟩
  · cases h; exact ⟨_, Tryz.func89, c89, by unfold Tryz.f89; decide⟩
  · cases h; exact ⟨_, Tryz.func90, c90, by unfold Tryz.f90; decide⟩
  · cases h; exact ⟨_, Tryz.func92, c92, by unfold Tryz.f92; decide⟩
  · cases h; exact ⟨_, Tryz.func94, c94, by unfold Tryz.f94; decide⟩
  · cases h; exact ⟨_, Tryz.func96, c96, by unfold Tryz.f96; decide⟩
  · cases h; exact ⟨_, Tryz.func108, c108, by unfold Tryz.f108; decide⟩
  · cases h; exact ⟨_, Tryz.func110, c110, by unfold Tryz.f110; decide⟩
  · cases h; exact ⟨_, Tryz.func111, c111, by unfold Tryz.f111; decide⟩
  · cases h; exact ⟨_, Tryz.func112, c112, by unfold Tryz.f112; decide⟩
  · cases h; exact ⟨_, Tryz.func113, c113, by unfold Tryz.f113; decide⟩
  · cases h; exact ⟨_, Tryz.func114, c114, by unfold Tryz.f114; decide⟩
  · cases h; exact ⟨_, Tryz.func115, c115, by unfold Tryz.f115; decide⟩
  · cases h; exact ⟨_, Tryz.func116, c116, by unfold Tryz.f116; decide⟩
  · cases h; exact ⟨_, Tryz.func117, c117, by unfold Tryz.f117; decide⟩
  · cases h; exact ⟨_, Tryz.func118, c118, by unfold Tryz.f118; decide⟩
  · cases h; exact ⟨_, Tryz.func119, c119, by unfold Tryz.f119; decide⟩
  · cases h; exact ⟨_, Tryz.func120, c120, by unfold Tryz.f120; decide⟩
  · cases h; exact ⟨_, Tryz.func121, c121, by unfold Tryz.f121; decide⟩
  · cases h; exact ⟨_, Tryz.func122, c122, by unfold Tryz.f122; decide⟩
  · cases h; exact ⟨_, Tryz.func123, c123, by unfold Tryz.f123; decide⟩
  · cases h; exact ⟨_, Tryz.func124, c124, by unfold Tryz.f124; decide⟩
  · cases h; exact ⟨_, Tryz.func125, c125, by unfold Tryz.f125; decide⟩
  · cases h; exact ⟨_, Tryz.func127, c127, by unfold Tryz.f127; decide⟩
  · cases h; exact ⟨_, Tryz.func128, c128, by unfold Tryz.f128; decide⟩
  · cases h; exact ⟨_, Tryz.func132, c132, by unfold Tryz.f132; decide⟩
  · cases h; exact ⟨_, Tryz.func133, c133, by unfold Tryz.f133; decide⟩
  · cases h; exact ⟨_, Tryz.func134, c134, by unfold Tryz.f134; decide⟩
  · cases h; exact ⟨_, Tryz.func145, c145, by unfold Tryz.f145; decide⟩
  · cases h; exact ⟨_, Tryz.func151, c151, by unfold Tryz.f151; decide⟩
  · cases h; exact ⟨_, Tryz.func152, c152, by unfold Tryz.f152; decide⟩
  · cases h; exact ⟨_, Tryz.func153, c153, by unfold Tryz.f153; decide⟩
  · cases h; exact ⟨_, Tryz.func154, c154, by unfold Tryz.f154; decide⟩
  · cases h; exact ⟨_, Tryz.func155, c155, by unfold Tryz.f155; decide⟩
  · cases h; exact ⟨_, Tryz.func156, c156, by unfold Tryz.f156; decide⟩
  · cases h; exact ⟨_, Tryz.func158, c158, by unfold Tryz.f158; decide⟩
  · cases h; exact ⟨_, Tryz.func159, c159, by unfold Tryz.f159; decide⟩
  · cases h; exact ⟨_, Tryz.func160, c160, by unfold Tryz.f160; decide⟩
  · cases h; exact ⟨_, Tryz.func161, c161, by unfold Tryz.f161; decide⟩
  · cases h; exact ⟨_, Tryz.func164, c164, by unfold Tryz.f164; decide⟩
  · cases h; exact ⟨_, Tryz.func165, c165, by unfold Tryz.f165; decide⟩
  · cases h; exact ⟨_, Tryz.func172, c172, by unfold Tryz.f172; decide⟩
  · cases h; exact ⟨_, Tryz.func173, c173, by unfold Tryz.f173; decide⟩
  · cases h; exact ⟨_, Tryz.func174, c174, by unfold Tryz.f174; decide⟩
  · cases h; exact ⟨_, Tryz.func181, c181, by unfold Tryz.f181; decide⟩
  · cases h; exact ⟨_, Tryz.func183, c183, by unfold Tryz.f183; decide⟩
  · cases h; exact ⟨_, Tryz.func199, c199, by unfold Tryz.f199; decide⟩
  · cases h; exact ⟨_, Tryz.func202, c202, by unfold Tryz.f202; decide⟩
  · cases h; exact ⟨_, Tryz.func204, c204, by unfold Tryz.f204; decide⟩
  · cases h; exact ⟨_, Tryz.func207, c207, by unfold Tryz.f207; decide⟩
  · cases h; exact ⟨_, Tryz.func208, c208, by unfold Tryz.f208; decide⟩
  · cases h; exact ⟨_, Tryz.func209, c209, by unfold Tryz.f209; decide⟩
  · cases h; exact ⟨_, Tryz.func210, c210, by unfold Tryz.f210; decide⟩
  · cases h; exact ⟨_, Tryz.func211, c211, by unfold Tryz.f211; decide⟩
  · cases h; exact ⟨_, Tryz.func212, c212, by unfold Tryz.f212; decide⟩
  · cases h; exact ⟨_, Tryz.func213, c213, by unfold Tryz.f213; decide⟩
  · cases h; exact ⟨_, Tryz.func214, c214, by unfold Tryz.f214; decide⟩
  · cases h; exact ⟨_, Tryz.func215, c215, by unfold Tryz.f215; decide⟩
  · cases h; exact ⟨_, Tryz.func216, c216, by unfold Tryz.f216; decide⟩
  · cases h; exact ⟨_, Tryz.func217, c217, by unfold Tryz.f217; decide⟩
  · cases h; exact ⟨_, Tryz.func219, c219, by unfold Tryz.f219; decide⟩
  · cases h; exact ⟨_, Tryz.func220, c220, by unfold Tryz.f220; decide⟩
  · cases h; exact ⟨_, Tryz.func221, c221, by unfold Tryz.f221; decide⟩
  · cases h; exact ⟨_, Tryz.func222, c222, by unfold Tryz.f222; decide⟩
  · cases h; exact ⟨_, Tryz.func223, c223, by unfold Tryz.f223; decide⟩
  · cases h; exact ⟨_, Tryz.func226, c226, by unfold Tryz.f226; decide⟩
  · cases h; exact ⟨_, Tryz.func227, c227, by unfold Tryz.f227; decide⟩
  · cases h; exact ⟨_, Tryz.func250, c250, by unfold Tryz.f250; decide⟩
  · cases h; exact ⟨_, Tryz.func251, c251, by unfold Tryz.f251; decide⟩
  · cases h; exact ⟨_, Tryz.func252, c252, by unfold Tryz.f252; decide⟩
  · cases h; exact ⟨_, Tryz.func253, c253, by unfold Tryz.f253; decide⟩
  · cases h; exact ⟨_, Tryz.func257, c257, by unfold Tryz.f257; decide⟩
  · cases h; exact ⟨_, Tryz.func258, c258, by unfold Tryz.f258; decide⟩
  · cases h; exact ⟨_, Tryz.func259, c259, by unfold Tryz.f259; decide⟩
  · cases h; exact ⟨_, Tryz.func260, c260, by unfold Tryz.f260; decide⟩
  · cases h; exact ⟨_, Tryz.func262, c262, by unfold Tryz.f262; decide⟩
  · cases h; exact ⟨_, Tryz.func263, c263, by unfold Tryz.f263; decide⟩
  · cases h; exact ⟨_, Tryz.func264, c264, by unfold Tryz.f264; decide⟩
  · cases h; exact ⟨_, Tryz.func265, c265, by unfold Tryz.f265; decide⟩
  · cases h; exact ⟨_, Tryz.func266, c266, by unfold Tryz.f266; decide⟩
  · cases h; exact ⟨_, Tryz.func278, c278, by unfold Tryz.f278; decide⟩
  · cases h; exact ⟨_, Tryz.func279, c279, by unfold Tryz.f279; decide⟩
  · cases h; exact ⟨_, Tryz.func287, c287, by unfold Tryz.f287; decide⟩
  · cases h; exact ⟨_, Tryz.func289, c289, by unfold Tryz.f289; decide⟩
  · cases h; exact ⟨_, Tryz.func297, c297, by unfold Tryz.f297; decide⟩
  · cases h; exact ⟨_, Tryz.func299, c299, by unfold Tryz.f299; decide⟩
  · cases h; exact ⟨_, Tryz.func301, c301, by unfold Tryz.f301; decide⟩
  · cases h; exact ⟨_, Tryz.func302, c302, by unfold Tryz.f302; decide⟩
  · cases h; exact ⟨_, Tryz.func303, c303, by unfold Tryz.f303; decide⟩
  · cases h; exact ⟨_, Tryz.func304, c304, by unfold Tryz.f304; decide⟩
  · cases h; exact ⟨_, Tryz.func305, c305, by unfold Tryz.f305; decide⟩
  · cases h; exact ⟨_, Tryz.func306, c306, by unfold Tryz.f306; decide⟩
  · cases h; exact ⟨_, Tryz.func307, c307, by unfold Tryz.f307; decide⟩
  · cases h; exact ⟨_, Tryz.func309, c309, by unfold Tryz.f309; decide⟩
  · cases h; exact ⟨_, Tryz.func310, c310, by unfold Tryz.f310; decide⟩
  · cases h; exact ⟨_, Tryz.func311, c311, by unfold Tryz.f311; decide⟩
  · cases h; exact ⟨_, Tryz.func312, c312, by unfold Tryz.f312; decide⟩
  · cases h; exact ⟨_, Tryz.func321, c321, by unfold Tryz.f321; decide⟩
  · cases h; exact ⟨_, Tryz.func342, c342, by unfold Tryz.f342; decide⟩
  · cases h; exact ⟨_, Tryz.func346, c346, by unfold Tryz.f346; decide⟩
  · cases h; exact ⟨_, Tryz.func347, c347, by unfold Tryz.f347; decide⟩
  · cases h; exact ⟨_, Tryz.func348, c348, by unfold Tryz.f348; decide⟩
  · cases h; exact ⟨_, Tryz.func349, c349, by unfold Tryz.f349; decide⟩
  · cases h; exact ⟨_, Tryz.func355, c355, by unfold Tryz.f355; decide⟩
  · cases h; exact ⟨_, Tryz.func372, c372, by unfold Tryz.f372; decide⟩
  · cases h; exact ⟨_, Tryz.func377, c377, by unfold Tryz.f377; decide⟩
  · cases h; exact ⟨_, Tryz.func387, c387, by unfold Tryz.f387; decide⟩
  · cases h; exact ⟨_, Tryz.func439, c439, by unfold Tryz.f439; decide⟩
  · cases h; exact ⟨_, Tryz.func441, c441, by unfold Tryz.f441; decide⟩
  · cases h
end Go.Proofs.YtlaoookdegmnnaaGreatDoor
