/- What the functions that the laws of the combiners reach compute, each told by the calculus of the evaluator. -/
import Derived.Test.YtkefplbhpbdhdaaCb
import Derived.Test.YtkefplbhpbdhdaaEc
import Derived.Test.YtkefplbhpbdhdaaEe
import Derived.Test.YtkefplbhpbdhdaaEd
import Derived.Test.YtkefplbhpbdhdaaProg
import Derived.KernelRfl
import Derived.Lib.Bytealg
set_option linter.all false
namespace Go.Dev.CB
open Go Go.Dev
set_option maxRecDepth 100000
def pol : Nat → Pol
  | 14 => ⟨[], [18], [(87, 2, 0)]⟩
  | 44 => ⟨[17], [], [(87, 2, 0)]⟩
  | 67 => ⟨[9], [], [(87, 2, 0)]⟩
  | 77 => ⟨[47], [], [(87, 2, 0)]⟩
  | 79 => ⟨[125], [122], [(87, 2, 0)]⟩
  | 83 => ⟨[1], [], [(87, 2, 0)]⟩
  | 93 => ⟨[], [10], [(87, 2, 0)]⟩
  | _ => ⟨[], [], [(87, 2, 0)]⟩
theorem tie4 : cFn Go.Proofs.Try.prog (pol 4) Go.Proofs.Try.f4 = some d4 := by kernel_rfl
theorem at4 : Go.Proofs.Try.prog.funcs[4]? = some Go.Proofs.Try.f4 := by kernel_rfl
theorem nm4 : (Go.Proofs.Try.f4.name == "runtime.NumGoroutine") = false := by kernel_rfl
theorem tie5 : cFn Go.Proofs.Try.prog (pol 5) Go.Proofs.Try.f5 = some d5 := by kernel_rfl
theorem at5 : Go.Proofs.Try.prog.funcs[5]? = some Go.Proofs.Try.f5 := by kernel_rfl
theorem nm5 : (Go.Proofs.Try.f5.name == "runtime.NumGoroutine") = false := by kernel_rfl
theorem tie6 : cFn Go.Proofs.Try.prog (pol 6) Go.Proofs.Try.f6 = some d6 := by kernel_rfl
theorem at6 : Go.Proofs.Try.prog.funcs[6]? = some Go.Proofs.Try.f6 := by kernel_rfl
theorem nm6 : (Go.Proofs.Try.f6.name == "runtime.NumGoroutine") = false := by kernel_rfl
theorem tie10 : cFn Go.Proofs.Try.prog (pol 10) Go.Proofs.Try.f10 = some d10 := by kernel_rfl
theorem at10 : Go.Proofs.Try.prog.funcs[10]? = some Go.Proofs.Try.f10 := by kernel_rfl
theorem nm10 : (Go.Proofs.Try.f10.name == "runtime.NumGoroutine") = false := by kernel_rfl
theorem tie14 : cFn Go.Proofs.Try.prog (pol 14) Go.Proofs.Try.f14 = some d14 := by kernel_rfl
theorem at14 : Go.Proofs.Try.prog.funcs[14]? = some Go.Proofs.Try.f14 := by kernel_rfl
theorem nm14 : (Go.Proofs.Try.f14.name == "runtime.NumGoroutine") = false := by kernel_rfl
theorem tie16 : cFn Go.Proofs.Try.prog (pol 16) Go.Proofs.Try.f16 = some d16 := by kernel_rfl
theorem at16 : Go.Proofs.Try.prog.funcs[16]? = some Go.Proofs.Try.f16 := by kernel_rfl
theorem nm16 : (Go.Proofs.Try.f16.name == "runtime.NumGoroutine") = false := by kernel_rfl
theorem tie17 : cFn Go.Proofs.Try.prog (pol 17) Go.Proofs.Try.f17 = some d17 := by kernel_rfl
theorem at17 : Go.Proofs.Try.prog.funcs[17]? = some Go.Proofs.Try.f17 := by kernel_rfl
theorem nm17 : (Go.Proofs.Try.f17.name == "runtime.NumGoroutine") = false := by kernel_rfl
theorem tie22 : cFn Go.Proofs.Try.prog (pol 22) Go.Proofs.Try.f22 = some d22 := by kernel_rfl
theorem at22 : Go.Proofs.Try.prog.funcs[22]? = some Go.Proofs.Try.f22 := by kernel_rfl
theorem nm22 : (Go.Proofs.Try.f22.name == "runtime.NumGoroutine") = false := by kernel_rfl
theorem tie23 : cFn Go.Proofs.Try.prog (pol 23) Go.Proofs.Try.f23 = some d23 := by kernel_rfl
theorem at23 : Go.Proofs.Try.prog.funcs[23]? = some Go.Proofs.Try.f23 := by kernel_rfl
theorem nm23 : (Go.Proofs.Try.f23.name == "runtime.NumGoroutine") = false := by kernel_rfl
theorem tie24 : cFn Go.Proofs.Try.prog (pol 24) Go.Proofs.Try.f24 = some d24 := by kernel_rfl
theorem at24 : Go.Proofs.Try.prog.funcs[24]? = some Go.Proofs.Try.f24 := by kernel_rfl
theorem nm24 : (Go.Proofs.Try.f24.name == "runtime.NumGoroutine") = false := by kernel_rfl
theorem tie25 : cFn Go.Proofs.Try.prog (pol 25) Go.Proofs.Try.f25 = some d25 := by kernel_rfl
theorem at25 : Go.Proofs.Try.prog.funcs[25]? = some Go.Proofs.Try.f25 := by kernel_rfl
theorem nm25 : (Go.Proofs.Try.f25.name == "runtime.NumGoroutine") = false := by kernel_rfl
theorem tie26 : cFn Go.Proofs.Try.prog (pol 26) Go.Proofs.Try.f26 = some d26 := by kernel_rfl
theorem at26 : Go.Proofs.Try.prog.funcs[26]? = some Go.Proofs.Try.f26 := by kernel_rfl
theorem nm26 : (Go.Proofs.Try.f26.name == "runtime.NumGoroutine") = false := by kernel_rfl
theorem tie27 : cFn Go.Proofs.Try.prog (pol 27) Go.Proofs.Try.f27 = some d27 := by kernel_rfl
theorem at27 : Go.Proofs.Try.prog.funcs[27]? = some Go.Proofs.Try.f27 := by kernel_rfl
theorem nm27 : (Go.Proofs.Try.f27.name == "runtime.NumGoroutine") = false := by kernel_rfl
theorem tie28 : cFn Go.Proofs.Try.prog (pol 28) Go.Proofs.Try.f28 = some d28 := by kernel_rfl
theorem at28 : Go.Proofs.Try.prog.funcs[28]? = some Go.Proofs.Try.f28 := by kernel_rfl
theorem nm28 : (Go.Proofs.Try.f28.name == "runtime.NumGoroutine") = false := by kernel_rfl
theorem tie29 : cFn Go.Proofs.Try.prog (pol 29) Go.Proofs.Try.f29 = some d29 := by kernel_rfl
theorem at29 : Go.Proofs.Try.prog.funcs[29]? = some Go.Proofs.Try.f29 := by kernel_rfl
theorem nm29 : (Go.Proofs.Try.f29.name == "runtime.NumGoroutine") = false := by kernel_rfl
theorem tie30 : cFn Go.Proofs.Try.prog (pol 30) Go.Proofs.Try.f30 = some d30 := by kernel_rfl
theorem at30 : Go.Proofs.Try.prog.funcs[30]? = some Go.Proofs.Try.f30 := by kernel_rfl
theorem nm30 : (Go.Proofs.Try.f30.name == "runtime.NumGoroutine") = false := by kernel_rfl
theorem tie31 : cFn Go.Proofs.Try.prog (pol 31) Go.Proofs.Try.f31 = some d31 := by kernel_rfl
theorem at31 : Go.Proofs.Try.prog.funcs[31]? = some Go.Proofs.Try.f31 := by kernel_rfl
theorem nm31 : (Go.Proofs.Try.f31.name == "runtime.NumGoroutine") = false := by kernel_rfl
theorem tie32 : cFn Go.Proofs.Try.prog (pol 32) Go.Proofs.Try.f32 = some d32 := by kernel_rfl
theorem at32 : Go.Proofs.Try.prog.funcs[32]? = some Go.Proofs.Try.f32 := by kernel_rfl
theorem nm32 : (Go.Proofs.Try.f32.name == "runtime.NumGoroutine") = false := by kernel_rfl
theorem tie33 : cFn Go.Proofs.Try.prog (pol 33) Go.Proofs.Try.f33 = some d33 := by kernel_rfl
theorem at33 : Go.Proofs.Try.prog.funcs[33]? = some Go.Proofs.Try.f33 := by kernel_rfl
theorem nm33 : (Go.Proofs.Try.f33.name == "runtime.NumGoroutine") = false := by kernel_rfl
theorem tie34 : cFn Go.Proofs.Try.prog (pol 34) Go.Proofs.Try.f34 = some d34 := by kernel_rfl
theorem at34 : Go.Proofs.Try.prog.funcs[34]? = some Go.Proofs.Try.f34 := by kernel_rfl
theorem nm34 : (Go.Proofs.Try.f34.name == "runtime.NumGoroutine") = false := by kernel_rfl
theorem tie35 : cFn Go.Proofs.Try.prog (pol 35) Go.Proofs.Try.f35 = some d35 := by kernel_rfl
theorem at35 : Go.Proofs.Try.prog.funcs[35]? = some Go.Proofs.Try.f35 := by kernel_rfl
theorem nm35 : (Go.Proofs.Try.f35.name == "runtime.NumGoroutine") = false := by kernel_rfl
theorem tie38 : cFn Go.Proofs.Try.prog (pol 38) Go.Proofs.Try.f38 = some d38 := by kernel_rfl
theorem at38 : Go.Proofs.Try.prog.funcs[38]? = some Go.Proofs.Try.f38 := by kernel_rfl
theorem nm38 : (Go.Proofs.Try.f38.name == "runtime.NumGoroutine") = false := by kernel_rfl
theorem tie39 : cFn Go.Proofs.Try.prog (pol 39) Go.Proofs.Try.f39 = some d39 := by kernel_rfl
theorem at39 : Go.Proofs.Try.prog.funcs[39]? = some Go.Proofs.Try.f39 := by kernel_rfl
theorem nm39 : (Go.Proofs.Try.f39.name == "runtime.NumGoroutine") = false := by kernel_rfl
theorem tie44 : cFn Go.Proofs.Try.prog (pol 44) Go.Proofs.Try.f44 = some d44 := by kernel_rfl
theorem at44 : Go.Proofs.Try.prog.funcs[44]? = some Go.Proofs.Try.f44 := by kernel_rfl
theorem nm44 : (Go.Proofs.Try.f44.name == "runtime.NumGoroutine") = false := by kernel_rfl
theorem tie46 : cFn Go.Proofs.Try.prog (pol 46) Go.Proofs.Try.f46 = some d46 := by kernel_rfl
theorem at46 : Go.Proofs.Try.prog.funcs[46]? = some Go.Proofs.Try.f46 := by kernel_rfl
theorem nm46 : (Go.Proofs.Try.f46.name == "runtime.NumGoroutine") = false := by kernel_rfl
theorem tie48 : cFn Go.Proofs.Try.prog (pol 48) Go.Proofs.Try.f48 = some d48 := by kernel_rfl
theorem at48 : Go.Proofs.Try.prog.funcs[48]? = some Go.Proofs.Try.f48 := by kernel_rfl
theorem nm48 : (Go.Proofs.Try.f48.name == "runtime.NumGoroutine") = false := by kernel_rfl
theorem tie49 : cFn Go.Proofs.Try.prog (pol 49) Go.Proofs.Try.f49 = some d49 := by kernel_rfl
theorem at49 : Go.Proofs.Try.prog.funcs[49]? = some Go.Proofs.Try.f49 := by kernel_rfl
theorem nm49 : (Go.Proofs.Try.f49.name == "runtime.NumGoroutine") = false := by kernel_rfl
theorem tie50 : cFn Go.Proofs.Try.prog (pol 50) Go.Proofs.Try.f50 = some d50 := by kernel_rfl
theorem at50 : Go.Proofs.Try.prog.funcs[50]? = some Go.Proofs.Try.f50 := by kernel_rfl
theorem nm50 : (Go.Proofs.Try.f50.name == "runtime.NumGoroutine") = false := by kernel_rfl
theorem tie51 : cFn Go.Proofs.Try.prog (pol 51) Go.Proofs.Try.f51 = some d51 := by kernel_rfl
theorem at51 : Go.Proofs.Try.prog.funcs[51]? = some Go.Proofs.Try.f51 := by kernel_rfl
theorem nm51 : (Go.Proofs.Try.f51.name == "runtime.NumGoroutine") = false := by kernel_rfl
theorem tie52 : cFn Go.Proofs.Try.prog (pol 52) Go.Proofs.Try.f52 = some d52 := by kernel_rfl
theorem at52 : Go.Proofs.Try.prog.funcs[52]? = some Go.Proofs.Try.f52 := by kernel_rfl
theorem nm52 : (Go.Proofs.Try.f52.name == "runtime.NumGoroutine") = false := by kernel_rfl
theorem tie53 : cFn Go.Proofs.Try.prog (pol 53) Go.Proofs.Try.f53 = some d53 := by kernel_rfl
theorem at53 : Go.Proofs.Try.prog.funcs[53]? = some Go.Proofs.Try.f53 := by kernel_rfl
theorem nm53 : (Go.Proofs.Try.f53.name == "runtime.NumGoroutine") = false := by kernel_rfl
theorem tie54 : cFn Go.Proofs.Try.prog (pol 54) Go.Proofs.Try.f54 = some d54 := by kernel_rfl
theorem at54 : Go.Proofs.Try.prog.funcs[54]? = some Go.Proofs.Try.f54 := by kernel_rfl
theorem nm54 : (Go.Proofs.Try.f54.name == "runtime.NumGoroutine") = false := by kernel_rfl
theorem tie55 : cFn Go.Proofs.Try.prog (pol 55) Go.Proofs.Try.f55 = some d55 := by kernel_rfl
theorem at55 : Go.Proofs.Try.prog.funcs[55]? = some Go.Proofs.Try.f55 := by kernel_rfl
theorem nm55 : (Go.Proofs.Try.f55.name == "runtime.NumGoroutine") = false := by kernel_rfl
theorem tie56 : cFn Go.Proofs.Try.prog (pol 56) Go.Proofs.Try.f56 = some d56 := by kernel_rfl
theorem at56 : Go.Proofs.Try.prog.funcs[56]? = some Go.Proofs.Try.f56 := by kernel_rfl
theorem nm56 : (Go.Proofs.Try.f56.name == "runtime.NumGoroutine") = false := by kernel_rfl
theorem tie57 : cFn Go.Proofs.Try.prog (pol 57) Go.Proofs.Try.f57 = some d57 := by kernel_rfl
theorem at57 : Go.Proofs.Try.prog.funcs[57]? = some Go.Proofs.Try.f57 := by kernel_rfl
theorem nm57 : (Go.Proofs.Try.f57.name == "runtime.NumGoroutine") = false := by kernel_rfl
theorem tie58 : cFn Go.Proofs.Try.prog (pol 58) Go.Proofs.Try.f58 = some d58 := by kernel_rfl
theorem at58 : Go.Proofs.Try.prog.funcs[58]? = some Go.Proofs.Try.f58 := by kernel_rfl
theorem nm58 : (Go.Proofs.Try.f58.name == "runtime.NumGoroutine") = false := by kernel_rfl
theorem tie59 : cFn Go.Proofs.Try.prog (pol 59) Go.Proofs.Try.f59 = some d59 := by kernel_rfl
theorem at59 : Go.Proofs.Try.prog.funcs[59]? = some Go.Proofs.Try.f59 := by kernel_rfl
theorem nm59 : (Go.Proofs.Try.f59.name == "runtime.NumGoroutine") = false := by kernel_rfl
theorem tie60 : cFn Go.Proofs.Try.prog (pol 60) Go.Proofs.Try.f60 = some d60 := by kernel_rfl
theorem at60 : Go.Proofs.Try.prog.funcs[60]? = some Go.Proofs.Try.f60 := by kernel_rfl
theorem nm60 : (Go.Proofs.Try.f60.name == "runtime.NumGoroutine") = false := by kernel_rfl
theorem tie61 : cFn Go.Proofs.Try.prog (pol 61) Go.Proofs.Try.f61 = some d61 := by kernel_rfl
theorem at61 : Go.Proofs.Try.prog.funcs[61]? = some Go.Proofs.Try.f61 := by kernel_rfl
theorem nm61 : (Go.Proofs.Try.f61.name == "runtime.NumGoroutine") = false := by kernel_rfl
theorem tie62 : cFn Go.Proofs.Try.prog (pol 62) Go.Proofs.Try.f62 = some d62 := by kernel_rfl
theorem at62 : Go.Proofs.Try.prog.funcs[62]? = some Go.Proofs.Try.f62 := by kernel_rfl
theorem nm62 : (Go.Proofs.Try.f62.name == "runtime.NumGoroutine") = false := by kernel_rfl
theorem tie63 : cFn Go.Proofs.Try.prog (pol 63) Go.Proofs.Try.f63 = some d63 := by kernel_rfl
theorem at63 : Go.Proofs.Try.prog.funcs[63]? = some Go.Proofs.Try.f63 := by kernel_rfl
theorem nm63 : (Go.Proofs.Try.f63.name == "runtime.NumGoroutine") = false := by kernel_rfl
theorem tie64 : cFn Go.Proofs.Try.prog (pol 64) Go.Proofs.Try.f64 = some d64 := by kernel_rfl
theorem at64 : Go.Proofs.Try.prog.funcs[64]? = some Go.Proofs.Try.f64 := by kernel_rfl
theorem nm64 : (Go.Proofs.Try.f64.name == "runtime.NumGoroutine") = false := by kernel_rfl
theorem tie65 : cFn Go.Proofs.Try.prog (pol 65) Go.Proofs.Try.f65 = some d65 := by kernel_rfl
theorem at65 : Go.Proofs.Try.prog.funcs[65]? = some Go.Proofs.Try.f65 := by kernel_rfl
theorem nm65 : (Go.Proofs.Try.f65.name == "runtime.NumGoroutine") = false := by kernel_rfl
theorem tie67 : cFn Go.Proofs.Try.prog (pol 67) Go.Proofs.Try.f67 = some d67 := by kernel_rfl
theorem at67 : Go.Proofs.Try.prog.funcs[67]? = some Go.Proofs.Try.f67 := by kernel_rfl
theorem nm67 : (Go.Proofs.Try.f67.name == "runtime.NumGoroutine") = false := by kernel_rfl
theorem tie71 : cFn Go.Proofs.Try.prog (pol 71) Go.Proofs.Try.f71 = some d71 := by kernel_rfl
theorem at71 : Go.Proofs.Try.prog.funcs[71]? = some Go.Proofs.Try.f71 := by kernel_rfl
theorem nm71 : (Go.Proofs.Try.f71.name == "runtime.NumGoroutine") = false := by kernel_rfl
theorem tie72 : cFn Go.Proofs.Try.prog (pol 72) Go.Proofs.Try.f72 = some d72 := by kernel_rfl
theorem at72 : Go.Proofs.Try.prog.funcs[72]? = some Go.Proofs.Try.f72 := by kernel_rfl
theorem nm72 : (Go.Proofs.Try.f72.name == "runtime.NumGoroutine") = false := by kernel_rfl
theorem tie73 : cFn Go.Proofs.Try.prog (pol 73) Go.Proofs.Try.f73 = some d73 := by kernel_rfl
theorem at73 : Go.Proofs.Try.prog.funcs[73]? = some Go.Proofs.Try.f73 := by kernel_rfl
theorem nm73 : (Go.Proofs.Try.f73.name == "runtime.NumGoroutine") = false := by kernel_rfl
theorem tie74 : cFn Go.Proofs.Try.prog (pol 74) Go.Proofs.Try.f74 = some d74 := by kernel_rfl
theorem at74 : Go.Proofs.Try.prog.funcs[74]? = some Go.Proofs.Try.f74 := by kernel_rfl
theorem nm74 : (Go.Proofs.Try.f74.name == "runtime.NumGoroutine") = false := by kernel_rfl
theorem tie77 : cFn Go.Proofs.Try.prog (pol 77) Go.Proofs.Try.f77 = some d77 := by kernel_rfl
theorem at77 : Go.Proofs.Try.prog.funcs[77]? = some Go.Proofs.Try.f77 := by kernel_rfl
theorem nm77 : (Go.Proofs.Try.f77.name == "runtime.NumGoroutine") = false := by kernel_rfl
theorem tie78 : cFn Go.Proofs.Try.prog (pol 78) Go.Proofs.Try.f78 = some d78 := by kernel_rfl
theorem at78 : Go.Proofs.Try.prog.funcs[78]? = some Go.Proofs.Try.f78 := by kernel_rfl
theorem nm78 : (Go.Proofs.Try.f78.name == "runtime.NumGoroutine") = false := by kernel_rfl
theorem tie79 : cFn Go.Proofs.Try.prog (pol 79) Go.Proofs.Try.f79 = some d79 := by kernel_rfl
theorem at79 : Go.Proofs.Try.prog.funcs[79]? = some Go.Proofs.Try.f79 := by kernel_rfl
theorem nm79 : (Go.Proofs.Try.f79.name == "runtime.NumGoroutine") = false := by kernel_rfl
theorem tie80 : cFn Go.Proofs.Try.prog (pol 80) Go.Proofs.Try.f80 = some d80 := by kernel_rfl
theorem at80 : Go.Proofs.Try.prog.funcs[80]? = some Go.Proofs.Try.f80 := by kernel_rfl
theorem nm80 : (Go.Proofs.Try.f80.name == "runtime.NumGoroutine") = false := by kernel_rfl
theorem tie81 : cFn Go.Proofs.Try.prog (pol 81) Go.Proofs.Try.f81 = some d81 := by kernel_rfl
theorem at81 : Go.Proofs.Try.prog.funcs[81]? = some Go.Proofs.Try.f81 := by kernel_rfl
theorem nm81 : (Go.Proofs.Try.f81.name == "runtime.NumGoroutine") = false := by kernel_rfl
theorem tie82 : cFn Go.Proofs.Try.prog (pol 82) Go.Proofs.Try.f82 = some d82 := by kernel_rfl
theorem at82 : Go.Proofs.Try.prog.funcs[82]? = some Go.Proofs.Try.f82 := by kernel_rfl
theorem nm82 : (Go.Proofs.Try.f82.name == "runtime.NumGoroutine") = false := by kernel_rfl
theorem tie83 : cFn Go.Proofs.Try.prog (pol 83) Go.Proofs.Try.f83 = some d83 := by kernel_rfl
theorem at83 : Go.Proofs.Try.prog.funcs[83]? = some Go.Proofs.Try.f83 := by kernel_rfl
theorem nm83 : (Go.Proofs.Try.f83.name == "runtime.NumGoroutine") = false := by kernel_rfl
theorem tie84 : cFn Go.Proofs.Try.prog (pol 84) Go.Proofs.Try.f84 = some d84 := by kernel_rfl
theorem at84 : Go.Proofs.Try.prog.funcs[84]? = some Go.Proofs.Try.f84 := by kernel_rfl
theorem nm84 : (Go.Proofs.Try.f84.name == "runtime.NumGoroutine") = false := by kernel_rfl
theorem tie85 : cFn Go.Proofs.Try.prog (pol 85) Go.Proofs.Try.f85 = some d85 := by kernel_rfl
theorem at85 : Go.Proofs.Try.prog.funcs[85]? = some Go.Proofs.Try.f85 := by kernel_rfl
theorem nm85 : (Go.Proofs.Try.f85.name == "runtime.NumGoroutine") = false := by kernel_rfl
theorem tie86 : cFn Go.Proofs.Try.prog (pol 86) Go.Proofs.Try.f86 = some d86 := by kernel_rfl
theorem at86 : Go.Proofs.Try.prog.funcs[86]? = some Go.Proofs.Try.f86 := by kernel_rfl
theorem nm86 : (Go.Proofs.Try.f86.name == "runtime.NumGoroutine") = false := by kernel_rfl
theorem tie87 : cFn Go.Proofs.Try.prog (pol 87) Go.Proofs.Try.f87 = some d87 := by kernel_rfl
theorem at87 : Go.Proofs.Try.prog.funcs[87]? = some Go.Proofs.Try.f87 := by kernel_rfl
theorem nm87 : (Go.Proofs.Try.f87.name == "runtime.NumGoroutine") = false := by kernel_rfl
theorem tie88 : cFn Go.Proofs.Try.prog (pol 88) Go.Proofs.Try.f88 = some d88 := by kernel_rfl
theorem at88 : Go.Proofs.Try.prog.funcs[88]? = some Go.Proofs.Try.f88 := by kernel_rfl
theorem nm88 : (Go.Proofs.Try.f88.name == "runtime.NumGoroutine") = false := by kernel_rfl
theorem tie92 : cFn Go.Proofs.Try.prog (pol 92) Go.Proofs.Try.f92 = some d92 := by kernel_rfl
theorem at92 : Go.Proofs.Try.prog.funcs[92]? = some Go.Proofs.Try.f92 := by kernel_rfl
theorem nm92 : (Go.Proofs.Try.f92.name == "runtime.NumGoroutine") = false := by kernel_rfl
theorem tie93 : cFn Go.Proofs.Try.prog (pol 93) Go.Proofs.Try.f93 = some d93 := by kernel_rfl
theorem at93 : Go.Proofs.Try.prog.funcs[93]? = some Go.Proofs.Try.f93 := by kernel_rfl
theorem nm93 : (Go.Proofs.Try.f93.name == "runtime.NumGoroutine") = false := by kernel_rfl
theorem tie94 : cFn Go.Proofs.Try.prog (pol 94) Go.Proofs.Try.f94 = some d94 := by kernel_rfl
theorem at94 : Go.Proofs.Try.prog.funcs[94]? = some Go.Proofs.Try.f94 := by kernel_rfl
theorem nm94 : (Go.Proofs.Try.f94.name == "runtime.NumGoroutine") = false := by kernel_rfl
theorem tie95 : cFn Go.Proofs.Try.prog (pol 95) Go.Proofs.Try.f95 = some d95 := by kernel_rfl
theorem at95 : Go.Proofs.Try.prog.funcs[95]? = some Go.Proofs.Try.f95 := by kernel_rfl
theorem nm95 : (Go.Proofs.Try.f95.name == "runtime.NumGoroutine") = false := by kernel_rfl
theorem tie96 : cFn Go.Proofs.Try.prog (pol 96) Go.Proofs.Try.f96 = some d96 := by kernel_rfl
theorem at96 : Go.Proofs.Try.prog.funcs[96]? = some Go.Proofs.Try.f96 := by kernel_rfl
theorem nm96 : (Go.Proofs.Try.f96.name == "runtime.NumGoroutine") = false := by kernel_rfl
theorem tie97 : cFn Go.Proofs.Try.prog (pol 97) Go.Proofs.Try.f97 = some d97 := by kernel_rfl
theorem at97 : Go.Proofs.Try.prog.funcs[97]? = some Go.Proofs.Try.f97 := by kernel_rfl
theorem nm97 : (Go.Proofs.Try.f97.name == "runtime.NumGoroutine") = false := by kernel_rfl
theorem tie98 : cFn Go.Proofs.Try.prog (pol 98) Go.Proofs.Try.f98 = some d98 := by kernel_rfl
theorem at98 : Go.Proofs.Try.prog.funcs[98]? = some Go.Proofs.Try.f98 := by kernel_rfl
theorem nm98 : (Go.Proofs.Try.f98.name == "runtime.NumGoroutine") = false := by kernel_rfl
theorem tie99 : cFn Go.Proofs.Try.prog (pol 99) Go.Proofs.Try.f99 = some d99 := by kernel_rfl
theorem at99 : Go.Proofs.Try.prog.funcs[99]? = some Go.Proofs.Try.f99 := by kernel_rfl
theorem nm99 : (Go.Proofs.Try.f99.name == "runtime.NumGoroutine") = false := by kernel_rfl
theorem tie101 : cFn Go.Proofs.Try.prog (pol 101) Go.Proofs.Try.f101 = some d101 := by kernel_rfl
theorem at101 : Go.Proofs.Try.prog.funcs[101]? = some Go.Proofs.Try.f101 := by kernel_rfl
theorem nm101 : (Go.Proofs.Try.f101.name == "runtime.NumGoroutine") = false := by kernel_rfl
theorem tie102 : cFn Go.Proofs.Try.prog (pol 102) Go.Proofs.Try.f102 = some d102 := by kernel_rfl
theorem at102 : Go.Proofs.Try.prog.funcs[102]? = some Go.Proofs.Try.f102 := by kernel_rfl
theorem nm102 : (Go.Proofs.Try.f102.name == "runtime.NumGoroutine") = false := by kernel_rfl
theorem tie103 : cFn Go.Proofs.Try.prog (pol 103) Go.Proofs.Try.f103 = some d103 := by kernel_rfl
theorem at103 : Go.Proofs.Try.prog.funcs[103]? = some Go.Proofs.Try.f103 := by kernel_rfl
theorem nm103 : (Go.Proofs.Try.f103.name == "runtime.NumGoroutine") = false := by kernel_rfl
theorem tie104 : cFn Go.Proofs.Try.prog (pol 104) Go.Proofs.Try.f104 = some d104 := by kernel_rfl
theorem at104 : Go.Proofs.Try.prog.funcs[104]? = some Go.Proofs.Try.f104 := by kernel_rfl
theorem nm104 : (Go.Proofs.Try.f104.name == "runtime.NumGoroutine") = false := by kernel_rfl
theorem tie105 : cFn Go.Proofs.Try.prog (pol 105) Go.Proofs.Try.f105 = some d105 := by kernel_rfl
theorem at105 : Go.Proofs.Try.prog.funcs[105]? = some Go.Proofs.Try.f105 := by kernel_rfl
theorem nm105 : (Go.Proofs.Try.f105.name == "runtime.NumGoroutine") = false := by kernel_rfl
theorem tie106 : cFn Go.Proofs.Try.prog (pol 106) Go.Proofs.Try.f106 = some d106 := by kernel_rfl
theorem at106 : Go.Proofs.Try.prog.funcs[106]? = some Go.Proofs.Try.f106 := by kernel_rfl
theorem nm106 : (Go.Proofs.Try.f106.name == "runtime.NumGoroutine") = false := by kernel_rfl
theorem tie111 : cFn Go.Proofs.Try.prog (pol 111) Go.Proofs.Try.f111 = some d111 := by kernel_rfl
theorem at111 : Go.Proofs.Try.prog.funcs[111]? = some Go.Proofs.Try.f111 := by kernel_rfl
theorem nm111 : (Go.Proofs.Try.f111.name == "runtime.NumGoroutine") = false := by kernel_rfl
theorem tie112 : cFn Go.Proofs.Try.prog (pol 112) Go.Proofs.Try.f112 = some d112 := by kernel_rfl
theorem at112 : Go.Proofs.Try.prog.funcs[112]? = some Go.Proofs.Try.f112 := by kernel_rfl
theorem nm112 : (Go.Proofs.Try.f112.name == "runtime.NumGoroutine") = false := by kernel_rfl
theorem tie113 : cFn Go.Proofs.Try.prog (pol 113) Go.Proofs.Try.f113 = some d113 := by kernel_rfl
theorem at113 : Go.Proofs.Try.prog.funcs[113]? = some Go.Proofs.Try.f113 := by kernel_rfl
theorem nm113 : (Go.Proofs.Try.f113.name == "runtime.NumGoroutine") = false := by kernel_rfl
theorem tie114 : cFn Go.Proofs.Try.prog (pol 114) Go.Proofs.Try.f114 = some d114 := by kernel_rfl
theorem at114 : Go.Proofs.Try.prog.funcs[114]? = some Go.Proofs.Try.f114 := by kernel_rfl
theorem nm114 : (Go.Proofs.Try.f114.name == "runtime.NumGoroutine") = false := by kernel_rfl
theorem tie115 : cFn Go.Proofs.Try.prog (pol 115) Go.Proofs.Try.f115 = some d115 := by kernel_rfl
theorem at115 : Go.Proofs.Try.prog.funcs[115]? = some Go.Proofs.Try.f115 := by kernel_rfl
theorem nm115 : (Go.Proofs.Try.f115.name == "runtime.NumGoroutine") = false := by kernel_rfl
theorem tie116 : cFn Go.Proofs.Try.prog (pol 116) Go.Proofs.Try.f116 = some d116 := by kernel_rfl
theorem at116 : Go.Proofs.Try.prog.funcs[116]? = some Go.Proofs.Try.f116 := by kernel_rfl
theorem nm116 : (Go.Proofs.Try.f116.name == "runtime.NumGoroutine") = false := by kernel_rfl
theorem tie117 : cFn Go.Proofs.Try.prog (pol 117) Go.Proofs.Try.f117 = some d117 := by kernel_rfl
theorem at117 : Go.Proofs.Try.prog.funcs[117]? = some Go.Proofs.Try.f117 := by kernel_rfl
theorem nm117 : (Go.Proofs.Try.f117.name == "runtime.NumGoroutine") = false := by kernel_rfl
theorem tie118 : cFn Go.Proofs.Try.prog (pol 118) Go.Proofs.Try.f118 = some d118 := by kernel_rfl
theorem at118 : Go.Proofs.Try.prog.funcs[118]? = some Go.Proofs.Try.f118 := by kernel_rfl
theorem nm118 : (Go.Proofs.Try.f118.name == "runtime.NumGoroutine") = false := by kernel_rfl
theorem tie119 : cFn Go.Proofs.Try.prog (pol 119) Go.Proofs.Try.f119 = some d119 := by kernel_rfl
theorem at119 : Go.Proofs.Try.prog.funcs[119]? = some Go.Proofs.Try.f119 := by kernel_rfl
theorem nm119 : (Go.Proofs.Try.f119.name == "runtime.NumGoroutine") = false := by kernel_rfl
theorem tie120 : cFn Go.Proofs.Try.prog (pol 120) Go.Proofs.Try.f120 = some d120 := by kernel_rfl
theorem at120 : Go.Proofs.Try.prog.funcs[120]? = some Go.Proofs.Try.f120 := by kernel_rfl
theorem nm120 : (Go.Proofs.Try.f120.name == "runtime.NumGoroutine") = false := by kernel_rfl
theorem tie121 : cFn Go.Proofs.Try.prog (pol 121) Go.Proofs.Try.f121 = some d121 := by kernel_rfl
theorem at121 : Go.Proofs.Try.prog.funcs[121]? = some Go.Proofs.Try.f121 := by kernel_rfl
theorem nm121 : (Go.Proofs.Try.f121.name == "runtime.NumGoroutine") = false := by kernel_rfl
theorem tie122 : cFn Go.Proofs.Try.prog (pol 122) Go.Proofs.Try.f122 = some d122 := by kernel_rfl
theorem at122 : Go.Proofs.Try.prog.funcs[122]? = some Go.Proofs.Try.f122 := by kernel_rfl
theorem nm122 : (Go.Proofs.Try.f122.name == "runtime.NumGoroutine") = false := by kernel_rfl
theorem tie123 : cFn Go.Proofs.Try.prog (pol 123) Go.Proofs.Try.f123 = some d123 := by kernel_rfl
theorem at123 : Go.Proofs.Try.prog.funcs[123]? = some Go.Proofs.Try.f123 := by kernel_rfl
theorem nm123 : (Go.Proofs.Try.f123.name == "runtime.NumGoroutine") = false := by kernel_rfl
theorem tie124 : cFn Go.Proofs.Try.prog (pol 124) Go.Proofs.Try.f124 = some d124 := by kernel_rfl
theorem at124 : Go.Proofs.Try.prog.funcs[124]? = some Go.Proofs.Try.f124 := by kernel_rfl
theorem nm124 : (Go.Proofs.Try.f124.name == "runtime.NumGoroutine") = false := by kernel_rfl
theorem tie125 : cFn Go.Proofs.Try.prog (pol 125) Go.Proofs.Try.f125 = some d125 := by kernel_rfl
theorem at125 : Go.Proofs.Try.prog.funcs[125]? = some Go.Proofs.Try.f125 := by kernel_rfl
theorem nm125 : (Go.Proofs.Try.f125.name == "runtime.NumGoroutine") = false := by kernel_rfl
theorem tie126 : cFn Go.Proofs.Try.prog (pol 126) Go.Proofs.Try.f126 = some d126 := by kernel_rfl
theorem at126 : Go.Proofs.Try.prog.funcs[126]? = some Go.Proofs.Try.f126 := by kernel_rfl
theorem nm126 : (Go.Proofs.Try.f126.name == "runtime.NumGoroutine") = false := by kernel_rfl
theorem tie127 : cFn Go.Proofs.Try.prog (pol 127) Go.Proofs.Try.f127 = some d127 := by kernel_rfl
theorem at127 : Go.Proofs.Try.prog.funcs[127]? = some Go.Proofs.Try.f127 := by kernel_rfl
theorem nm127 : (Go.Proofs.Try.f127.name == "runtime.NumGoroutine") = false := by kernel_rfl
theorem tie128 : cFn Go.Proofs.Try.prog (pol 128) Go.Proofs.Try.f128 = some d128 := by kernel_rfl
theorem at128 : Go.Proofs.Try.prog.funcs[128]? = some Go.Proofs.Try.f128 := by kernel_rfl
theorem nm128 : (Go.Proofs.Try.f128.name == "runtime.NumGoroutine") = false := by kernel_rfl
theorem tie129 : cFn Go.Proofs.Try.prog (pol 129) Go.Proofs.Try.f129 = some d129 := by kernel_rfl
theorem at129 : Go.Proofs.Try.prog.funcs[129]? = some Go.Proofs.Try.f129 := by kernel_rfl
theorem nm129 : (Go.Proofs.Try.f129.name == "runtime.NumGoroutine") = false := by kernel_rfl
theorem tie130 : cFn Go.Proofs.Try.prog (pol 130) Go.Proofs.Try.f130 = some d130 := by kernel_rfl
theorem at130 : Go.Proofs.Try.prog.funcs[130]? = some Go.Proofs.Try.f130 := by kernel_rfl
theorem nm130 : (Go.Proofs.Try.f130.name == "runtime.NumGoroutine") = false := by kernel_rfl
theorem tie131 : cFn Go.Proofs.Try.prog (pol 131) Go.Proofs.Try.f131 = some d131 := by kernel_rfl
theorem at131 : Go.Proofs.Try.prog.funcs[131]? = some Go.Proofs.Try.f131 := by kernel_rfl
theorem nm131 : (Go.Proofs.Try.f131.name == "runtime.NumGoroutine") = false := by kernel_rfl
theorem tie132 : cFn Go.Proofs.Try.prog (pol 132) Go.Proofs.Try.f132 = some d132 := by kernel_rfl
theorem at132 : Go.Proofs.Try.prog.funcs[132]? = some Go.Proofs.Try.f132 := by kernel_rfl
theorem nm132 : (Go.Proofs.Try.f132.name == "runtime.NumGoroutine") = false := by kernel_rfl
theorem tie133 : cFn Go.Proofs.Try.prog (pol 133) Go.Proofs.Try.f133 = some d133 := by kernel_rfl
theorem at133 : Go.Proofs.Try.prog.funcs[133]? = some Go.Proofs.Try.f133 := by kernel_rfl
theorem nm133 : (Go.Proofs.Try.f133.name == "runtime.NumGoroutine") = false := by kernel_rfl
theorem tie134 : cFn Go.Proofs.Try.prog (pol 134) Go.Proofs.Try.f134 = some d134 := by kernel_rfl
theorem at134 : Go.Proofs.Try.prog.funcs[134]? = some Go.Proofs.Try.f134 := by kernel_rfl
theorem nm134 : (Go.Proofs.Try.f134.name == "runtime.NumGoroutine") = false := by kernel_rfl
theorem tie135 : cFn Go.Proofs.Try.prog (pol 135) Go.Proofs.Try.f135 = some d135 := by kernel_rfl
theorem at135 : Go.Proofs.Try.prog.funcs[135]? = some Go.Proofs.Try.f135 := by kernel_rfl
theorem nm135 : (Go.Proofs.Try.f135.name == "runtime.NumGoroutine") = false := by kernel_rfl
theorem tie136 : cFn Go.Proofs.Try.prog (pol 136) Go.Proofs.Try.f136 = some d136 := by kernel_rfl
theorem at136 : Go.Proofs.Try.prog.funcs[136]? = some Go.Proofs.Try.f136 := by kernel_rfl
theorem nm136 : (Go.Proofs.Try.f136.name == "runtime.NumGoroutine") = false := by kernel_rfl
theorem tie137 : cFn Go.Proofs.Try.prog (pol 137) Go.Proofs.Try.f137 = some d137 := by kernel_rfl
theorem at137 : Go.Proofs.Try.prog.funcs[137]? = some Go.Proofs.Try.f137 := by kernel_rfl
theorem nm137 : (Go.Proofs.Try.f137.name == "runtime.NumGoroutine") = false := by kernel_rfl
theorem one {f : Nat} {fn : Func} {d : DFn} (h1 : Go.Proofs.Try.prog.funcs[f]? = some fn) (h2 : (fn.name == "runtime.NumGoroutine") = false) (h3 : cFn Go.Proofs.Try.prog (pol f) fn = some d) :
    ∃ fn body, Go.Proofs.Try.prog.funcs[f]? = some fn ∧ fn.body = some body ∧ (fn.name == "runtime.NumGoroutine") = false ∧ cFn Go.Proofs.Try.prog (pol f) fn = some d := by
  obtain ⟨b, hb, _⟩ := cFn_inv h3
  exact ⟨fn, b, h1, hb, h2, h3⟩
theorem fnsOk : ∀ f d, fns f = some d → ∃ fn body, Go.Proofs.Try.prog.funcs[f]? = some fn ∧ fn.body = some body ∧ (fn.name == "runtime.NumGoroutine") = false ∧ cFn Go.Proofs.Try.prog (pol f) fn = some d := by
  intro f d hd
  simp only [fns] at hd
  split at hd
  · simp only [Option.some.injEq] at hd; subst hd; exact one at4 nm4 tie4
  · simp only [Option.some.injEq] at hd; subst hd; exact one at5 nm5 tie5
  · simp only [Option.some.injEq] at hd; subst hd; exact one at6 nm6 tie6
  · simp only [Option.some.injEq] at hd; subst hd; exact one at10 nm10 tie10
  · simp only [Option.some.injEq] at hd; subst hd; exact one at14 nm14 tie14
  · simp only [Option.some.injEq] at hd; subst hd; exact one at16 nm16 tie16
  · simp only [Option.some.injEq] at hd; subst hd; exact one at17 nm17 tie17
  · simp only [Option.some.injEq] at hd; subst hd; exact one at22 nm22 tie22
  · simp only [Option.some.injEq] at hd; subst hd; exact one at23 nm23 tie23
  · simp only [Option.some.injEq] at hd; subst hd; exact one at24 nm24 tie24
  · simp only [Option.some.injEq] at hd; subst hd; exact one at25 nm25 tie25
  · simp only [Option.some.injEq] at hd; subst hd; exact one at26 nm26 tie26
  · simp only [Option.some.injEq] at hd; subst hd; exact one at27 nm27 tie27
  · simp only [Option.some.injEq] at hd; subst hd; exact one at28 nm28 tie28
  · simp only [Option.some.injEq] at hd; subst hd; exact one at29 nm29 tie29
  · simp only [Option.some.injEq] at hd; subst hd; exact one at30 nm30 tie30
  · simp only [Option.some.injEq] at hd; subst hd; exact one at31 nm31 tie31
  · simp only [Option.some.injEq] at hd; subst hd; exact one at32 nm32 tie32
  · simp only [Option.some.injEq] at hd; subst hd; exact one at33 nm33 tie33
  · simp only [Option.some.injEq] at hd; subst hd; exact one at34 nm34 tie34
  · simp only [Option.some.injEq] at hd; subst hd; exact one at35 nm35 tie35
  · simp only [Option.some.injEq] at hd; subst hd; exact one at38 nm38 tie38
  · simp only [Option.some.injEq] at hd; subst hd; exact one at39 nm39 tie39
  · simp only [Option.some.injEq] at hd; subst hd; exact one at44 nm44 tie44
  · simp only [Option.some.injEq] at hd; subst hd; exact one at46 nm46 tie46
  · simp only [Option.some.injEq] at hd; subst hd; exact one at48 nm48 tie48
  · simp only [Option.some.injEq] at hd; subst hd; exact one at49 nm49 tie49
  · simp only [Option.some.injEq] at hd; subst hd; exact one at50 nm50 tie50
  · simp only [Option.some.injEq] at hd; subst hd; exact one at51 nm51 tie51
  · simp only [Option.some.injEq] at hd; subst hd; exact one at52 nm52 tie52
  · simp only [Option.some.injEq] at hd; subst hd; exact one at53 nm53 tie53
  · simp only [Option.some.injEq] at hd; subst hd; exact one at54 nm54 tie54
  · simp only [Option.some.injEq] at hd; subst hd; exact one at55 nm55 tie55
  · simp only [Option.some.injEq] at hd; subst hd; exact one at56 nm56 tie56
  · simp only [Option.some.injEq] at hd; subst hd; exact one at57 nm57 tie57
  · simp only [Option.some.injEq] at hd; subst hd; exact one at58 nm58 tie58
  · simp only [Option.some.injEq] at hd; subst hd; exact one at59 nm59 tie59
  · simp only [Option.some.injEq] at hd; subst hd; exact one at60 nm60 tie60
  · simp only [Option.some.injEq] at hd; subst hd; exact one at61 nm61 tie61
  · simp only [Option.some.injEq] at hd; subst hd; exact one at62 nm62 tie62
  · simp only [Option.some.injEq] at hd; subst hd; exact one at63 nm63 tie63
  · simp only [Option.some.injEq] at hd; subst hd; exact one at64 nm64 tie64
  · simp only [Option.some.injEq] at hd; subst hd; exact one at65 nm65 tie65
  · simp only [Option.some.injEq] at hd; subst hd; exact one at67 nm67 tie67
  · simp only [Option.some.injEq] at hd; subst hd; exact one at71 nm71 tie71
  · simp only [Option.some.injEq] at hd; subst hd; exact one at72 nm72 tie72
  · simp only [Option.some.injEq] at hd; subst hd; exact one at73 nm73 tie73
  · simp only [Option.some.injEq] at hd; subst hd; exact one at74 nm74 tie74
  · simp only [Option.some.injEq] at hd; subst hd; exact one at77 nm77 tie77
  · simp only [Option.some.injEq] at hd; subst hd; exact one at78 nm78 tie78
  · simp only [Option.some.injEq] at hd; subst hd; exact one at79 nm79 tie79
  · simp only [Option.some.injEq] at hd; subst hd; exact one at80 nm80 tie80
  · simp only [Option.some.injEq] at hd; subst hd; exact one at81 nm81 tie81
  · simp only [Option.some.injEq] at hd; subst hd; exact one at82 nm82 tie82
  · simp only [Option.some.injEq] at hd; subst hd; exact one at83 nm83 tie83
  · simp only [Option.some.injEq] at hd; subst hd; exact one at84 nm84 tie84
  · simp only [Option.some.injEq] at hd; subst hd; exact one at85 nm85 tie85
  · simp only [Option.some.injEq] at hd; subst hd; exact one at86 nm86 tie86
  · simp only [Option.some.injEq] at hd; subst hd; exact one at87 nm87 tie87
  · simp only [Option.some.injEq] at hd; subst hd; exact one at88 nm88 tie88
  · simp only [Option.some.injEq] at hd; subst hd; exact one at92 nm92 tie92
  · simp only [Option.some.injEq] at hd; subst hd; exact one at93 nm93 tie93
  · simp only [Option.some.injEq] at hd; subst hd; exact one at94 nm94 tie94
  · simp only [Option.some.injEq] at hd; subst hd; exact one at95 nm95 tie95
  · simp only [Option.some.injEq] at hd; subst hd; exact one at96 nm96 tie96
  · simp only [Option.some.injEq] at hd; subst hd; exact one at97 nm97 tie97
  · simp only [Option.some.injEq] at hd; subst hd; exact one at98 nm98 tie98
  · simp only [Option.some.injEq] at hd; subst hd; exact one at99 nm99 tie99
  · simp only [Option.some.injEq] at hd; subst hd; exact one at101 nm101 tie101
  · simp only [Option.some.injEq] at hd; subst hd; exact one at102 nm102 tie102
  · simp only [Option.some.injEq] at hd; subst hd; exact one at103 nm103 tie103
  · simp only [Option.some.injEq] at hd; subst hd; exact one at104 nm104 tie104
  · simp only [Option.some.injEq] at hd; subst hd; exact one at105 nm105 tie105
  · simp only [Option.some.injEq] at hd; subst hd; exact one at106 nm106 tie106
  · simp only [Option.some.injEq] at hd; subst hd; exact one at111 nm111 tie111
  · simp only [Option.some.injEq] at hd; subst hd; exact one at112 nm112 tie112
  · simp only [Option.some.injEq] at hd; subst hd; exact one at113 nm113 tie113
  · simp only [Option.some.injEq] at hd; subst hd; exact one at114 nm114 tie114
  · simp only [Option.some.injEq] at hd; subst hd; exact one at115 nm115 tie115
  · simp only [Option.some.injEq] at hd; subst hd; exact one at116 nm116 tie116
  · simp only [Option.some.injEq] at hd; subst hd; exact one at117 nm117 tie117
  · simp only [Option.some.injEq] at hd; subst hd; exact one at118 nm118 tie118
  · simp only [Option.some.injEq] at hd; subst hd; exact one at119 nm119 tie119
  · simp only [Option.some.injEq] at hd; subst hd; exact one at120 nm120 tie120
  · simp only [Option.some.injEq] at hd; subst hd; exact one at121 nm121 tie121
  · simp only [Option.some.injEq] at hd; subst hd; exact one at122 nm122 tie122
  · simp only [Option.some.injEq] at hd; subst hd; exact one at123 nm123 tie123
  · simp only [Option.some.injEq] at hd; subst hd; exact one at124 nm124 tie124
  · simp only [Option.some.injEq] at hd; subst hd; exact one at125 nm125 tie125
  · simp only [Option.some.injEq] at hd; subst hd; exact one at126 nm126 tie126
  · simp only [Option.some.injEq] at hd; subst hd; exact one at127 nm127 tie127
  · simp only [Option.some.injEq] at hd; subst hd; exact one at128 nm128 tie128
  · simp only [Option.some.injEq] at hd; subst hd; exact one at129 nm129 tie129
  · simp only [Option.some.injEq] at hd; subst hd; exact one at130 nm130 tie130
  · simp only [Option.some.injEq] at hd; subst hd; exact one at131 nm131 tie131
  · simp only [Option.some.injEq] at hd; subst hd; exact one at132 nm132 tie132
  · simp only [Option.some.injEq] at hd; subst hd; exact one at133 nm133 tie133
  · simp only [Option.some.injEq] at hd; subst hd; exact one at134 nm134 tie134
  · simp only [Option.some.injEq] at hd; subst hd; exact one at135 nm135 tie135
  · simp only [Option.some.injEq] at hd; subst hd; exact one at136 nm136 tie136
  · simp only [Option.some.injEq] at hd; subst hd; exact one at137 nm137 tie137
  · cases hd
end Go.Dev.CB

/- The environment: what is laid for the combiners. -/
namespace Go.Dev.CB
open Go Go.Dev Go.Dev.Wk Go.RowKit

theorem mixed : Go.Proofs.Try.prog.follows .mixedOrders = true := by kernel_rfl

/-! ### slices.Clone -/

def E0 : Env := ⟨fun _ => none, fun _ => none, fun _ => none⟩
theorem laid0 : Laid Go.Proofs.Try.prog pol E0 where
  ext := fun f p hp => by simp [E0] at hp
  mixed := mixed
  fns := fun f d hd => by simp [E0] at hd
  prim := fun f p hp => by simp [E0] at hp

noncomputable def body100 : Code := Go.Proofs.Try.f100.body.getD .skip
def lft : Code → Code
  | .seq a _ => a
  | _ => .skip
def rgt : Code → Code
  | .seq _ b => b
  | _ => .skip
noncomputable def kA : Code := lft body100
noncomputable def kC : Code := rgt (lft (rgt body100))
noncomputable def kD : Code := rgt (rgt body100)
def o0 : Oper := ⟨some 3, .move (.tmp 0), 38, "slices.go:357", #[], none⟩
def o1 : Oper := ⟨some 4, .binOp .eql 38 (.tmp 3) (.const (.slice none 0 0)) 38, 4, "slices.go:357", #[⟨0, .data⟩], none⟩
theorem body100_eq : Go.Proofs.Try.f100.body = some (.seq kA (.seq (.seq (.region 1 #[o0, o1] false) kC) kD)) := by kernel_rfl
def pol100 : Nat → Pol := fun _ => ⟨[7], [], []⟩
def eA : DCode := .region [⟨some 2, .mv (.c (.one .esl)), none, false⟩] []
def eC : DCode := .cond (.t 4) (.seq (.region [⟨some 2, .mv (.c (.one .esl)), none, false⟩] []) .ret) .skip
def eD : DCode := .seq (.region [⟨some 5, .bsl 40 5 false [], none, false⟩, ⟨some 6, .mv (.t 0), none, false⟩, ⟨some 7, .append 40 5 72 true (.t 5) (.t 6), none, false⟩, ⟨some 2, .mv (.t 7), none, false⟩] []) .ret
theorem kA_eq : cC Go.Proofs.Try.prog (pol100 0) kA = some eA := by kernel_rfl
theorem kC_eq : cC Go.Proofs.Try.prog (pol100 0) kC = some eC := by kernel_rfl
theorem kD_eq : cC Go.Proofs.Try.prog (pol100 0) kD = some eD := by kernel_rfl

theorem laid100 : Laid Go.Proofs.Try.prog pol100 E0 where
  ext := fun f p hp => by simp [E0] at hp
  mixed := mixed
  fns := fun f d hd => by simp [E0] at hd
  prim := fun f p hp => by simp [E0] at hp

def d100 : DFn := ⟨8, [.t 2], .skip⟩
theorem at100 : Go.Proofs.Try.prog.funcs[100]? = some Go.Proofs.Try.f100 := by kernel_rfl
theorem nm100 : (Go.Proofs.Try.f100.name == "runtime.NumGoroutine") = false := by kernel_rfl
theorem nt100 : d100.ntmps = Go.Proofs.Try.f100.ntmps := by kernel_rfl
theorem rs100 : cRes Go.Proofs.Try.prog Go.Proofs.Try.f100.results.toList = some d100.res := by kernel_rfl

/-- What slices.Clone gives, where its list is taken over. -/
def cloneP : Bool → List T → List Ob → Option (T × List Ob)
  | true, [.one (.v (.sl es))], [] => if allSz 5 es && okBytes es.length 72 then
      (if es.isEmpty then some (.one .esl, [⟨0, 0, []⟩]) else some (.one (.osl (.fo 0) 5 0 es.length), [⟨0, 0, es.flatten.map .v⟩])) else none
  | _, _, _ => none

/-- The frames at its end. -/
def Q100 (es : List (List V)) : Ex → Fr → Prop
  | .ret, fr => if es.isEmpty then getAll fr [.t 2] = some [.one .esl] ∧ fr.fo = []
    else ∃ tm bx, fr = ofF 8 16 tm bx [] ∧ tm 2 = .one (.osl (.loc 7 (bx 7).g) 5 0 es.length) ∧ (bx 7).cs = es.flatten.map .v
  | _, _ => False

theorem mw100 (es : List (List V)) (hs : allSz 5 es = true) (hb : okBytes es.length 72 = true) : MW Go.Proofs.Try.prog (.seq kA (.seq (.seq (.region 1 #[o0, o1] false) kC) kD)) (enter d100 [.one (.v (.sl es))] []) (Q100 es) := by
  rw [enter_ofF _ _ _ (Nat.le_of_ble_eq_true rfl)]
  refine mw_seq (mw_ev (f := 0) laid100 kA_eq ?_)
  simp only [go_sem, ↓reduceIte, Nat.reduceLT, Nat.reduceEqDiff, Nat.reduceAdd, Nat.reduceMul, Nat.reduceLeDiff, Nat.reduceBEq, Nat.reduceSub, Int.reduceLT, Int.reduceLE, Int.reduceEq, Int.reduceToNat, reduceCtorEq, Nat.lt_irrefl, Nat.le_refl, d100, eA]
  refine mw_seq (mw_seq (mw_nil (po := pol100 0) (s := 0) (d0 := 3) (d1 := 4) (es := es) Go.Proofs.Try.underlying38 rfl rfl rfl rfl rfl rfl (by simp only [go_sem, ↓reduceIte, Nat.reduceLT, Nat.reduceEqDiff, Nat.reduceAdd, Nat.reduceMul, Nat.reduceLeDiff, Nat.reduceBEq, Nat.reduceSub, Int.reduceLT, Int.reduceLE, Int.reduceEq, Int.reduceToNat, reduceCtorEq, Nat.lt_irrefl, Nat.le_refl]) (by simp only [go_sem, ↓reduceIte, Nat.reduceLT, Nat.reduceEqDiff, Nat.reduceAdd, Nat.reduceMul, Nat.reduceLeDiff, Nat.reduceBEq, Nat.reduceSub, Int.reduceLT, Int.reduceLE, Int.reduceEq, Int.reduceToNat, reduceCtorEq, Nat.lt_irrefl, Nat.le_refl]) ?_))
  intro b hbn
  simp only [go_sem, ↓reduceIte, Nat.reduceLT, Nat.reduceEqDiff, Nat.reduceAdd, Nat.reduceMul, Nat.reduceLeDiff, Nat.reduceBEq, Nat.reduceSub, Int.reduceLT, Int.reduceLE, Int.reduceEq, Int.reduceToNat, reduceCtorEq, Nat.lt_irrefl, Nat.le_refl]
  refine mw_ev (f := 0) laid100 kC_eq ?_
  cases b with
  | true =>
    have he : es = [] := by
      by_cases h : es = []
      · exact h
      · exact absurd (hbn h) (by simp)
    subst he
    simp only [go_sem, ↓reduceIte, Nat.reduceLT, Nat.reduceEqDiff, Nat.reduceAdd, Nat.reduceMul, Nat.reduceLeDiff, Nat.reduceBEq, Nat.reduceSub, Int.reduceLT, Int.reduceLE, Int.reduceEq, Int.reduceToNat, reduceCtorEq, Nat.lt_irrefl, Nat.le_refl, eC, Q100]
  | false =>
    simp only [go_sem, ↓reduceIte, Nat.reduceLT, Nat.reduceEqDiff, Nat.reduceAdd, Nat.reduceMul, Nat.reduceLeDiff, Nat.reduceBEq, Nat.reduceSub, Int.reduceLT, Int.reduceLE, Int.reduceEq, Int.reduceToNat, reduceCtorEq, Nat.lt_irrefl, Nat.le_refl, eC]
    refine mw_ev (f := 0) laid100 kD_eq ?_
    cases es with
    | nil =>
      simp only [go_sem, ↓reduceIte, Nat.reduceLT, Nat.reduceEqDiff, Nat.reduceAdd, Nat.reduceMul, Nat.reduceLeDiff, Nat.reduceBEq, Nat.reduceSub, Int.reduceLT, Int.reduceLE, Int.reduceEq, Int.reduceToNat, reduceCtorEq, Nat.lt_irrefl, Nat.le_refl, eD, Q100]
    | cons e0 es =>
      rw [List.length_cons] at hb
      simp only [go_sem, ↓reduceIte, Nat.reduceLT, Nat.reduceEqDiff, Nat.reduceAdd, Nat.reduceMul, Nat.reduceLeDiff, Nat.reduceBEq, Nat.reduceSub, Int.reduceLT, Int.reduceLE, Int.reduceEq, Int.reduceToNat, reduceCtorEq, Nat.lt_irrefl, Nat.le_refl, eD, hs, hb, appEsl, Q100]
      exact ⟨_, _, rfl, rfl, rfl⟩

theorem allSz_mem {sz : Nat} {es : List (List V)} (h : allSz sz es = true) : ∀ e ∈ es, e.length = sz := by
  intro e he
  simp only [allSz, List.all_eq_true] at h
  exact eq_of_beq (h e he)

theorem good100 : Good Go.Proofs.Try.prog (fun ad g args fo => if g = 100 then cloneP ad args fo else none) := by
  intro ad f args fo r fo' h hha hho
  simp only at h
  split at h
  case isFalse => cases h
  rename_i hf
  subst hf
  unfold cloneP at h
  split at h
  case h_2 => cases h
  rename_i es
  split at h
  case isFalse => cases h
  rename_i hc
  rw [Bool.and_eq_true] at hc
  have hmw := mw100 es hc.1 hc.2
  cases es with
  | nil =>
    simp only [List.isEmpty_nil, if_true, Option.some.injEq, Prod.mk.injEq] at h
    obtain ⟨rfl, rfl⟩ := h
    have := mw_good2 (P := Go.Proofs.Try.prog) (ad := true) (f := 100) (d := d100) (r := .one (.v (.sl []))) (fo' := [⟨0, 0, []⟩]) (X := fun v => ∃ A, v = .slice A 0 0) at100 nm100 body100_eq nt100 rs100 hha hho hmw (by
      intro ex fr hq
      cases ex with
      | ret =>
        simp only [Q100, List.isEmpty_nil, if_true] at hq
        refine ⟨.inr rfl, _, hq.1, ?_, ?_⟩
        · simp only [go_sem, ↓reduceIte, Nat.reduceLT, Nat.reduceEqDiff, Nat.reduceAdd, Nat.reduceMul, Nat.reduceLeDiff, Nat.reduceBEq, Nat.reduceSub, Int.reduceLT, Int.reduceLE, Int.reduceEq, Int.reduceToNat, reduceCtorEq, Nat.lt_irrefl, Nat.le_refl, hq.2]
        · intro c us hr
          match us, hr with
          | [u], hr =>
            simp only [RelTs, RelT, RelC] at hr
            exact hr.1
      | _ => exact hq.elim)
    refine ⟨this.1, fun c vs R ha => (this.2 c vs R ha).mono fun en w' hen => ?_⟩
    obtain ⟨v, c', e1, e2, e3, e4, ⟨_, e5⟩, e6⟩ := hen
    exact ⟨v, c', e1, e2, e3, e4, RelT.one (by simp only [RelC]; exact e5), e6⟩
  | cons e0 es =>
    simp only [List.isEmpty_cons, Bool.false_eq_true, if_false, Option.some.injEq, Prod.mk.injEq] at h
    obtain ⟨rfl, rfl⟩ := h
    have := mw_good2 (P := Go.Proofs.Try.prog) (ad := true) (f := 100) (d := d100) (r := .one (.osl (.fo 0) 5 0 (e0 :: es).length)) (fo' := [⟨0, 0, (e0 :: es).flatten.map .v⟩]) (X := fun _ => True) at100 nm100 body100_eq nt100 rs100 hha hho hmw (by
      intro ex fr hq
      cases ex with
      | ret =>
        simp only [Q100, List.isEmpty_cons, Bool.false_eq_true, if_false] at hq
        obtain ⟨tm, bx, rfl, t2, b7⟩ := hq
        have hg : getAll (ofF 8 16 tm bx []) d100.res = some [.one (.osl (.loc 7 (bx 7).g) 5 0 (e0 :: es).length)] := by simp only [go_sem, ↓reduceIte, Nat.reduceLT, Nat.reduceEqDiff, Nat.reduceAdd, Nat.reduceMul, Nat.reduceLeDiff, Nat.reduceBEq, Nat.reduceSub, Int.reduceLT, Int.reduceLE, Int.reduceEq, Int.reduceToNat, reduceCtorEq, Nat.lt_irrefl, Nat.le_refl, d100, t2]
        exact ⟨.inr rfl, _, hg, by simp only [go_sem, ↓reduceIte, Nat.reduceLT, Nat.reduceEqDiff, Nat.reduceAdd, Nat.reduceMul, Nat.reduceLeDiff, Nat.reduceBEq, Nat.reduceSub, Int.reduceLT, Int.reduceLE, Int.reduceEq, Int.reduceToNat, reduceCtorEq, Nat.lt_irrefl, Nat.le_refl, b7], fun _ _ _ => trivial⟩
      | _ => exact hq.elim)
    refine ⟨this.1, fun c vs R ha => (this.2 c vs R ha).mono fun en w' hen => ?_⟩
    obtain ⟨v, c', e1, e2, e3, e4, ⟨e5, _⟩, e6⟩ := hen
    exact ⟨v, c', e1, e2, e3, e4, e5, e6⟩

/-! ### Strings held against each other, by the runtime -/

def cmpStr : List T → Option T
  | [.one (.v (.s (.string a))), .one (.v (.s (.string b)))] => some (tI (Lib.compareBytes a.data.toList b.data.toList))
  | _ => none

theorem cmp138 (a b : ByteArray) (w : World) : (callFunc 138 ⟨[.string a, .string b]⟩).run Go.Proofs.Try.prog w = (do let v ← Extern.BytealgCompare.compare #[.string a, .string b]; pure (Next.value v)).run Go.Proofs.Try.prog w := by kernel_rfl

def ext : Ext
  | 138 => some cmpStr
  | _ => none
def prim : Nat → Option (Bool → List T → List Ob → Option (T × List Ob))
  | 100 => some cloneP
  | _ => none
def E : Env := ⟨fns, ext, prim⟩

theorem laid : Laid Go.Proofs.Try.prog pol E where
  ext := fun f p hp args t ht c vs hr => by
    simp only [E, ext] at hp
    split at hp
    · simp only [Option.some.injEq] at hp
      subst hp
      unfold cmpStr at ht
      split at ht
      · rename_i a b
        simp only [Option.some.injEq] at ht
        subst ht
        match vs, hr with
        | [u, v], hr =>
          simp only [RelTs] at hr
          have e1 := hr.1.lit.1
          have e2 := hr.2.1.lit.1
          subst e1; subst e2
          refine ⟨.int .i64 (Lib.compareBytes a.data.toList b.data.toList), ?_, RelT.one (by simp only [RelC, RelV]; exact ⟨trivial, rfl⟩)⟩
          rw [cmp138, Sem.run_bind, Lib.run_compareString]
          rfl
      · cases ht
    · cases hp
  mixed := mixed
  fns := fnsOk
  prim := fun f p hp => by
    simp only [E, prim] at hp
    split at hp
    · simp only [Option.some.injEq] at hp
      subst hp
      exact good100
    · cases hp

end Go.Dev.CB

/- The fixed answer. -/
namespace Go.Dev.CB
open Go Go.Dev Go.Dev.Wk

theorem f23_ok : Ev E false 23 [] [] (tB true) [] := ⟨2000, by kernel_rfl⟩

end Go.Dev.CB

/- Types, and the words of kinds. -/
namespace Go.Dev.CB
open Go Go.Dev Go.Dev.Wk

inductive Ty where
  | mk (k : Int) (l : List Ty)

mutual
def Ty.row : Ty → List V
  | .mk k l => [.s (.int .i64 k), .sl (Ty.rows l)]
def Ty.rows : List Ty → List (List V)
  | [] => []
  | t :: ts => t.row :: Ty.rows ts
end

mutual
def Ty.size : Ty → Nat
  | .mk _ l => 1 + Ty.sizes l
def Ty.sizes : List Ty → Nat
  | [] => 0
  | t :: ts => t.size + Ty.sizes ts
end

def Ty.t (t : Ty) : T := .agg (t.row.map .v)

theorem rows_map (l : List Ty) : Ty.rows l = l.map Ty.row := by
  induction l with
  | nil => rfl
  | cons a l ih => simp only [Ty.rows, ih, List.map_cons]

theorem rows_len (l : List Ty) : (Ty.rows l).length = l.length := by rw [rows_map, List.length_map]

theorem rows_at {l : List Ty} {j : Nat} (h : j < l.length) : (Ty.rows l)[j]? = some (l[j].row) := by
  rw [rows_map, List.getElem?_map, List.getElem?_eq_getElem h]; rfl

theorem size_mem {l : List Ty} {t : Ty} (h : t ∈ l) : t.size ≤ Ty.sizes l := by
  induction l with
  | nil => cases h
  | cons a l ih =>
    simp only [Ty.sizes]
    cases h with
    | head => omega
    | tail _ h => have := ih h; omega

theorem size_at {l : List Ty} {j : Nat} (h : j < l.length) : l[j].size ≤ Ty.sizes l := size_mem (List.getElem_mem h)

theorem len_size (l : List Ty) : l.length ≤ Ty.sizes l := by
  induction l with
  | nil => exact Nat.zero_le _
  | cons a l ih => cases a; simp only [Ty.sizes, Ty.size, List.length_cons]; omega

theorem allSz_rows (l : List Ty) : allSz 2 (Ty.rows l) = true := by
  rw [rows_map]; exact allSz_map (fun t => by cases t; rfl) l

theorem mk_at (t : Ty) : ∃ k l, t = .mk k l := by cases t; exact ⟨_, _, rfl⟩

/-! ### Words -/

def wordB (k : Int) : ByteArray :=
  if k = 1 then ⟨#[98, 111, 111, 108]⟩ else if k = 2 then ⟨#[105, 110, 116]⟩ else if k = 3 then ⟨#[116, 101, 120, 116]⟩ else if k = 4 then ⟨#[98, 121, 116, 101, 115]⟩
  else if k = 5 then ⟨#[112, 111, 105, 110, 116]⟩ else if k = 6 then ⟨#[112, 97, 105, 114]⟩ else if k = 7 then ⟨#[108, 105, 115, 116]⟩ else if k = 9 then ⟨#[111, 112, 116, 105, 111, 110]⟩ else ⟨#[]⟩

theorem kinds (k : Int) : k = 1 ∨ k = 2 ∨ k = 3 ∨ k = 4 ∨ k = 5 ∨ k = 6 ∨ k = 7 ∨ k = 9 ∨ (¬ k = 1 ∧ ¬ k = 2 ∧ ¬ k = 3 ∧ ¬ k = 4 ∧ ¬ k = 5 ∧ ¬ k = 6 ∧ ¬ k = 7 ∧ ¬ k = 9) := by omega

theorem f38_ok (k : Int) : Ev E false 38 [tI k] [] (tS (wordB k)) [] := by
  refine ev_of_wp (d := d38) rfl rfl (Nat.le_of_ble_eq_true rfl) ?_
  rcases kinds k with rfl | rfl | rfl | rfl | rfl | rfl | rfl | rfl | ⟨h1, h2, h3, h4, h5, h6, h7, h9⟩
  all_goals first
    | (simp only [go_sem, ↓reduceIte, Nat.reduceLT, Nat.reduceEqDiff, Nat.reduceAdd, Nat.reduceMul, Nat.reduceLeDiff, Nat.reduceBEq, Nat.reduceSub, Int.reduceLT, Int.reduceLE, Int.reduceEq, Int.reduceToNat, reduceCtorEq, Nat.lt_irrefl, Nat.le_refl, d38, c38]; rfl)
    | simp only [go_sem, ↓reduceIte, Nat.reduceLT, Nat.reduceEqDiff, Nat.reduceAdd, Nat.reduceMul, Nat.reduceLeDiff, Nat.reduceBEq, Nat.reduceSub, Int.reduceLT, Int.reduceLE, Int.reduceEq, Int.reduceToNat, reduceCtorEq, Nat.lt_irrefl, Nat.le_refl, d38, c38, wordB, *]

def cntN (k : Int) : Nat := if k = 6 then 2 else if k = 7 then 1 else if k = 9 then 1 else 0
theorem f39_ok (k : Int) : Ev E false 39 [tI k] [] (tI (cntN k)) [] := by
  refine ev_of_wp (d := d39) rfl rfl (Nat.le_of_ble_eq_true rfl) ?_
  by_cases h6 : k = 6
  · subst h6; simp only [go_sem, ↓reduceIte, Nat.reduceLT, Nat.reduceEqDiff, Nat.reduceAdd, Nat.reduceMul, Nat.reduceLeDiff, Nat.reduceBEq, Nat.reduceSub, Int.reduceLT, Int.reduceLE, Int.reduceEq, Int.reduceToNat, reduceCtorEq, Nat.lt_irrefl, Nat.le_refl, d39, c39]; rfl
  by_cases h7 : k = 7
  · subst h7; simp only [go_sem, ↓reduceIte, Nat.reduceLT, Nat.reduceEqDiff, Nat.reduceAdd, Nat.reduceMul, Nat.reduceLeDiff, Nat.reduceBEq, Nat.reduceSub, Int.reduceLT, Int.reduceLE, Int.reduceEq, Int.reduceToNat, reduceCtorEq, Nat.lt_irrefl, Nat.le_refl, d39, c39]; rfl
  by_cases h9 : k = 9
  · subst h9; simp only [go_sem, ↓reduceIte, Nat.reduceLT, Nat.reduceEqDiff, Nat.reduceAdd, Nat.reduceMul, Nat.reduceLeDiff, Nat.reduceBEq, Nat.reduceSub, Int.reduceLT, Int.reduceLE, Int.reduceEq, Int.reduceToNat, reduceCtorEq, Nat.lt_irrefl, Nat.le_refl, d39, c39]; rfl
  simp only [go_sem, ↓reduceIte, Nat.reduceLT, Nat.reduceEqDiff, Nat.reduceAdd, Nat.reduceMul, Nat.reduceLeDiff, Nat.reduceBEq, Nat.reduceSub, Int.reduceLT, Int.reduceLE, Int.reduceEq, Int.reduceToNat, reduceCtorEq, Nat.lt_irrefl, Nat.le_refl, d39, c39, h6, h7, h9, cntN]; rfl

/-- The words: kind, text, how many. -/
def words : List (Int × ByteArray × Int) :=
  [(1, ⟨#[98, 111, 111, 108]⟩, 0), (2, ⟨#[105, 110, 116]⟩, 0), (3, ⟨#[116, 101, 120, 116]⟩, 0), (4, ⟨#[98, 121, 116, 101, 115]⟩, 0), (5, ⟨#[112, 111, 105, 110, 116]⟩, 0), (6, ⟨#[112, 97, 105, 114]⟩, 2), (7, ⟨#[108, 105, 115, 116]⟩, 1), (9, ⟨#[111, 112, 116, 105, 111, 110]⟩, 1)]
def wrow (w : Int × ByteArray × Int) : List V := [.s (.int .i64 w.1), .s (.string w.2.1), .s (.int .i64 w.2.2)]

theorem f67_ok : Ev E false 67 [] [] (.one (.v (.sl (words.map wrow)))) [] := ⟨20, by kernel_rfl⟩

theorem f72_ok (w : Int × ByteArray × Int) (k : Int) (r : List (List V)) (ty : Nat) : Ev E false 72 [.agg ((wrow w).map .v), .one (.ref (.fo 0) 0)] [⟨0, ty, [.v (.s (.int .i64 k)), .v (.sl r)]⟩] (tB (decide (w.1 = k))) [⟨0, ty, [.v (.s (.int .i64 k)), .v (.sl r)]⟩] := by
  refine ev_of_wp (d := d72) rfl rfl (Nat.le_of_ble_eq_true rfl) ?_
  simp only [go_sem, ↓reduceIte, Nat.reduceLT, Nat.reduceEqDiff, Nat.reduceAdd, Nat.reduceMul, Nat.reduceLeDiff, Nat.reduceBEq, Nat.reduceSub, Int.reduceLT, Int.reduceLE, Int.reduceEq, Int.reduceToNat, reduceCtorEq, Nat.lt_irrefl, Nat.le_refl, d72, c72, wrow]

def idxW (k : Int) (l : List (Int × ByteArray × Int)) : Option Nat := l.findIdx? fun w => decide (w.1 = k)
def idxI : Option Nat → Int
  | some i => i
  | none => -1

theorem f71_ok (k : Int) (r : List (List V)) (ty : Nat) (ws : List (Int × ByteArray × Int)) (hl : ws.length < 100000) : Ev E false 71 [.one (.v (.sl (ws.map wrow))), .one (.fn (.func 72) [] [.ref (.fo 0) 0])] [⟨0, ty, [.v (.s (.int .i64 k)), .v (.sl r)]⟩] (tI (idxI (idxW k ws))) [⟨0, ty, [.v (.s (.int .i64 k)), .v (.sl r)]⟩] := by
  refine ev_of_wp (d := d71) rfl rfl (Nat.le_of_ble_eq_true rfl) ?_
  simp only [go_sem, ↓reduceIte, Nat.reduceLT, Nat.reduceEqDiff, Nat.reduceAdd, Nat.reduceMul, Nat.reduceLeDiff, Nat.reduceBEq, Nat.reduceSub, Int.reduceLT, Int.reduceLE, Int.reduceEq, Int.reduceToNat, reduceCtorEq, Nat.lt_irrefl, Nat.le_refl, d71, c71]
  refine loop_ind (I := fun (j : Nat) tm bx fo => j ≤ ws.length ∧ fo = [⟨0, ty, [.v (.s (.int .i64 k)), .v (.sl r)]⟩] ∧ tm 0 = .one (.v (.sl (ws.map wrow))) ∧ tm 1 = .one (.fn (.func 72) [] [.ref (.fo 0) 0]) ∧ tm 7 = tI ws.length ∧ tm 8 = tI j ∧
      ∀ i, (h : i < j) → (h2 : i < ws.length) → ws[i].1 ≠ k) (μ := fun j => ws.length - j) ?_ 0 _ _ _ ?_
  · rintro j tm bx fo ⟨hj, rfl, h0, h1, h7, h8, hn⟩ IH
    by_cases hjl : j < ws.length
    · have e3 : (ws.map wrow)[j]? = some (wrow ws[j]) := by rw [List.getElem?_map, List.getElem?_eq_getElem hjl]; rfl
      obtain ⟨⟨w, s, a⟩, he⟩ : ∃ w, ws[j] = w := ⟨_, rfl⟩
      rw [he] at e3
      simp only [go_sem, ↓reduceIte, Nat.reduceLT, Nat.reduceEqDiff, Nat.reduceAdd, Nat.reduceMul, Nat.reduceLeDiff, Nat.reduceBEq, Nat.reduceSub, Int.reduceLT, Int.reduceLE, Int.reduceEq, Int.reduceToNat, reduceCtorEq, Nat.lt_irrefl, Nat.le_refl, h0, h1, h7, h8, hjl, e3, wrow]
      refine callK (by rfl) ?_
      simp only [go_sem, ↓reduceIte, Nat.reduceLT, Nat.reduceEqDiff, Nat.reduceAdd, Nat.reduceMul, Nat.reduceLeDiff, Nat.reduceBEq, Nat.reduceSub, Int.reduceLT, Int.reduceLE, Int.reduceEq, Int.reduceToNat, reduceCtorEq, Nat.lt_irrefl, Nat.le_refl, h0, h1, h7, h8, hjl]
      refine callE (f72_ok (w, s, a) k r ty) rfl ?_
      simp only [go_sem, ↓reduceIte, Nat.reduceLT, Nat.reduceEqDiff, Nat.reduceAdd, Nat.reduceMul, Nat.reduceLeDiff, Nat.reduceBEq, Nat.reduceSub, Int.reduceLT, Int.reduceLE, Int.reduceEq, Int.reduceToNat, reduceCtorEq, Nat.lt_irrefl, Nat.le_refl, h0, h1, h7, h8, hjl]
      by_cases hk : w = k
      · simp only [go_sem, ↓reduceIte, Nat.reduceLT, Nat.reduceEqDiff, Nat.reduceAdd, Nat.reduceMul, Nat.reduceLeDiff, Nat.reduceBEq, Nat.reduceSub, Int.reduceLT, Int.reduceLE, Int.reduceEq, Int.reduceToNat, reduceCtorEq, Nat.lt_irrefl, Nat.le_refl, h0, h1, h7, h8, hjl, hk]
        have : idxW k ws = some j := find_at hjl (by rw [he]; simp [hk]) (fun i hi => by simp [hn i hi (by omega)])
        rw [this]; rfl
      · simp only [go_sem, ↓reduceIte, Nat.reduceLT, Nat.reduceEqDiff, Nat.reduceAdd, Nat.reduceMul, Nat.reduceLeDiff, Nat.reduceBEq, Nat.reduceSub, Int.reduceLT, Int.reduceLE, Int.reduceEq, Int.reduceToNat, reduceCtorEq, Nat.lt_irrefl, Nat.le_refl, h0, h1, h7, h8, hjl, hk]
        refine IH (j + 1) _ _ _ (by omega) ⟨by omega, rfl, h0, h1, h7, ?_, ?_⟩
        · show T.one (C.v (V.s (Value.int IntKind.i64 (IntKind.i64.wrap (j + 1))))) = _
          rw [wrap_succ (by omega)]; rfl
        · intro i h h2
          by_cases hij : i = j
          · subst hij; rw [he]; exact hk
          · exact hn i (by omega) h2
    · simp only [go_sem, ↓reduceIte, Nat.reduceLT, Nat.reduceEqDiff, Nat.reduceAdd, Nat.reduceMul, Nat.reduceLeDiff, Nat.reduceBEq, Nat.reduceSub, Int.reduceLT, Int.reduceLE, Int.reduceEq, Int.reduceToNat, reduceCtorEq, Nat.lt_irrefl, Nat.le_refl, h0, h1, h7, h8, hjl]
      have : idxW k ws = none := find_none (fun i hi => by simp [hn i (by omega) hi])
      rw [this]; rfl
  · refine ⟨Nat.zero_le _, rfl, rfl, rfl, ?_, rfl, fun i h => absurd h (Nat.not_lt_zero _)⟩
    rfl

theorem idx_known {k : Int} (h : ¬ wordB k = ⟨#[]⟩) : ∃ i w, idxW k words = some i ∧ words[i]? = some w ∧ w.2.2 = cntN k ∧ w.1 = k ∧ w.2.1 = wordB k ∧ i < 8 := by
  rcases kinds k with rfl | rfl | rfl | rfl | rfl | rfl | rfl | rfl | ⟨h1, h2, h3, h4, h5, h6, h7, h9⟩
  · exact ⟨0, _, rfl, rfl, rfl, rfl, rfl, by omega⟩
  · exact ⟨1, _, rfl, rfl, rfl, rfl, rfl, by omega⟩
  · exact ⟨2, _, rfl, rfl, rfl, rfl, rfl, by omega⟩
  · exact ⟨3, _, rfl, rfl, rfl, rfl, rfl, by omega⟩
  · exact ⟨4, _, rfl, rfl, rfl, rfl, rfl, by omega⟩
  · exact ⟨5, _, rfl, rfl, rfl, rfl, rfl, by omega⟩
  · exact ⟨6, _, rfl, rfl, rfl, rfl, rfl, by omega⟩
  · exact ⟨7, _, rfl, rfl, rfl, rfl, rfl, by omega⟩
  · exact absurd (by simp only [wordB, h1, h2, h3, h4, h5, h6, h7, h9, if_false]) h

theorem idx_unknown {k : Int} (h : wordB k = ⟨#[]⟩) : idxW k words = none := by
  rcases kinds k with rfl | rfl | rfl | rfl | rfl | rfl | rfl | rfl | ⟨h1, h2, h3, h4, h5, h6, h7, h9⟩
  · revert h; decide
  · revert h; decide
  · revert h; decide
  · revert h; decide
  · revert h; decide
  · revert h; decide
  · revert h; decide
  · revert h; decide
  · simp [idxW, words, List.findIdx?_cons, Ne.symm h1, Ne.symm h2, Ne.symm h3, Ne.symm h4, Ne.symm h5, Ne.symm h6, Ne.symm h7, Ne.symm h9]

/-! ### Right types -/

mutual
def Ty.ok : Nat → Ty → Bool
  | 0, _ => false
  | d + 1, .mk k l => !decide (wordB k = ⟨#[]⟩) && decide (l.length = cntN k) && Ty.oks d l
def Ty.oks : Nat → List Ty → Bool
  | _, [] => true
  | d, t :: ts => Ty.ok d t && Ty.oks d ts
end

theorem oks_all (d : Nat) (l : List Ty) : Ty.oks d l = l.all (Ty.ok d) := by
  induction l with
  | nil => rfl
  | cons a l ih => simp only [Ty.oks, ih, List.all_cons]

end Go.Dev.CB

/- Which types are right. -/
namespace Go.Dev.CB
open Go Go.Dev Go.Dev.Wk

theorem f74_ok {d : Nat} {t : Ty} (hd : d < 100) (h : Ev E false 46 [t.t, tI d] [] (tB (t.ok d)) []) : Ev E false 74 [t.t, .one (.ref (.fo 0) 0)] [⟨0, 3, [.v (.s (.int .i64 ((d + 1 : Nat) : Int)))]⟩] (tB (!t.ok d)) [⟨0, 3, [.v (.s (.int .i64 ((d + 1 : Nat) : Int)))]⟩] := by
  refine ev_of_wp (d := d74) rfl rfl (Nat.le_of_ble_eq_true rfl) ?_
  obtain ⟨k, l, rfl⟩ := mk_at t
  simp only [go_sem, ↓reduceIte, Nat.reduceLT, Nat.reduceEqDiff, Nat.reduceAdd, Nat.reduceMul, Nat.reduceLeDiff, Nat.reduceBEq, Nat.reduceSub, Int.reduceLT, Int.reduceLE, Int.reduceEq, Int.reduceToNat, reduceCtorEq, Nat.lt_irrefl, Nat.le_refl, d74, c74, Ty.t, Ty.row, wrap_pred (show d < 9223372036854775807 by omega)]
  refine call0 (h) (by rfl) (by rfl) (by rfl) (by rfl) ?_
  simp only [go_sem, ↓reduceIte, Nat.reduceLT, Nat.reduceEqDiff, Nat.reduceAdd, Nat.reduceMul, Nat.reduceLeDiff, Nat.reduceBEq, Nat.reduceSub, Int.reduceLT, Int.reduceLE, Int.reduceEq, Int.reduceToNat, reduceCtorEq, Nat.lt_irrefl, Nat.le_refl]

def idxT (d : Nat) (l : List Ty) : Option Nat := l.findIdx? fun t => !t.ok d

theorem f92_ok {d : Nat} {l : List Ty} (hl : l.length < 100000) (hd : d < 100) (h : ∀ t ∈ l, Ev E false 46 [t.t, tI d] [] (tB (t.ok d)) []) : Ev E false 92 [.one (.v (.sl (Ty.rows l))), .one (.fn (.func 74) [] [.ref (.fo 0) 0])] [⟨0, 3, [.v (.s (.int .i64 ((d + 1 : Nat) : Int)))]⟩] (tI (idxI (idxT d l))) [⟨0, 3, [.v (.s (.int .i64 ((d + 1 : Nat) : Int)))]⟩] := by
  refine ev_of_wp (d := d92) rfl rfl (Nat.le_of_ble_eq_true rfl) ?_
  simp only [go_sem, ↓reduceIte, Nat.reduceLT, Nat.reduceEqDiff, Nat.reduceAdd, Nat.reduceMul, Nat.reduceLeDiff, Nat.reduceBEq, Nat.reduceSub, Int.reduceLT, Int.reduceLE, Int.reduceEq, Int.reduceToNat, reduceCtorEq, Nat.lt_irrefl, Nat.le_refl, d92, c92]
  refine loop_ind (I := fun (j : Nat) tm bx fo => j ≤ l.length ∧ fo = [⟨0, 3, [.v (.s (.int .i64 ((d + 1 : Nat) : Int)))]⟩] ∧ tm 0 = .one (.v (.sl (Ty.rows l))) ∧ tm 1 = .one (.fn (.func 74) [] [.ref (.fo 0) 0]) ∧ tm 7 = tI l.length ∧ tm 8 = tI j ∧
      ∀ i, (h : i < j) → (h2 : i < l.length) → l[i].ok d = true) (μ := fun j => l.length - j) ?_ 0 _ _ _ ?_
  · rintro j tm bx fo ⟨hj, rfl, h0, h1, h7, h8, hn⟩ IH
    by_cases hjl : j < l.length
    · have e3 := rows_at hjl
      have e5 := h _ (List.getElem_mem hjl)
      obtain ⟨k, l', he⟩ := mk_at l[j]
      rw [he] at e3 e5
      simp only [go_sem, ↓reduceIte, Nat.reduceLT, Nat.reduceEqDiff, Nat.reduceAdd, Nat.reduceMul, Nat.reduceLeDiff, Nat.reduceBEq, Nat.reduceSub, Int.reduceLT, Int.reduceLE, Int.reduceEq, Int.reduceToNat, reduceCtorEq, Nat.lt_irrefl, Nat.le_refl, h0, h1, h7, h8, hjl, e3, Ty.row]
      refine callK (by rfl) ?_
      simp only [go_sem, ↓reduceIte, Nat.reduceLT, Nat.reduceEqDiff, Nat.reduceAdd, Nat.reduceMul, Nat.reduceLeDiff, Nat.reduceBEq, Nat.reduceSub, Int.reduceLT, Int.reduceLE, Int.reduceEq, Int.reduceToNat, reduceCtorEq, Nat.lt_irrefl, Nat.le_refl, h0, h1, h7, h8, hjl]
      refine callE ((f74_ok hd e5)) (by rfl) ?_
      simp only [go_sem, ↓reduceIte, Nat.reduceLT, Nat.reduceEqDiff, Nat.reduceAdd, Nat.reduceMul, Nat.reduceLeDiff, Nat.reduceBEq, Nat.reduceSub, Int.reduceLT, Int.reduceLE, Int.reduceEq, Int.reduceToNat, reduceCtorEq, Nat.lt_irrefl, Nat.le_refl, h0, h1, h7, h8, hjl]
      cases hk : (Ty.mk k l').ok d with
      | false =>
        simp only [go_sem, ↓reduceIte, Nat.reduceLT, Nat.reduceEqDiff, Nat.reduceAdd, Nat.reduceMul, Nat.reduceLeDiff, Nat.reduceBEq, Nat.reduceSub, Int.reduceLT, Int.reduceLE, Int.reduceEq, Int.reduceToNat, reduceCtorEq, Nat.lt_irrefl, Nat.le_refl, h0, h1, h7, h8, hjl, hk]
        have : idxT d l = some j := find_at hjl (by rw [he]; simp [hk]) (fun i hi => by simp [hn i hi (by omega)])
        rw [this]; rfl
      | true =>
        simp only [go_sem, ↓reduceIte, Nat.reduceLT, Nat.reduceEqDiff, Nat.reduceAdd, Nat.reduceMul, Nat.reduceLeDiff, Nat.reduceBEq, Nat.reduceSub, Int.reduceLT, Int.reduceLE, Int.reduceEq, Int.reduceToNat, reduceCtorEq, Nat.lt_irrefl, Nat.le_refl, h0, h1, h7, h8, hjl, hk]
        refine IH (j + 1) _ _ _ (by omega) ⟨by omega, rfl, h0, h1, h7, ?_, ?_⟩
        · show T.one (C.v (V.s (Value.int IntKind.i64 (IntKind.i64.wrap (j + 1))))) = _
          rw [wrap_succ (by omega)]; rfl
        · intro i h h2
          by_cases hij : i = j
          · subst hij; rw [he]; exact hk
          · exact hn i (by omega) h2
    · simp only [go_sem, ↓reduceIte, Nat.reduceLT, Nat.reduceEqDiff, Nat.reduceAdd, Nat.reduceMul, Nat.reduceLeDiff, Nat.reduceBEq, Nat.reduceSub, Int.reduceLT, Int.reduceLE, Int.reduceEq, Int.reduceToNat, reduceCtorEq, Nat.lt_irrefl, Nat.le_refl, h0, h1, h7, h8, hjl]
      have : idxT d l = none := find_none (fun i hi => by simp [hn i (by omega) hi])
      rw [this]; rfl
  · refine ⟨Nat.zero_le _, rfl, rfl, rfl, ?_, rfl, fun i h => absurd h (Nat.not_lt_zero _)⟩
    show T.one (C.v (V.s (Value.int IntKind.i64 ((Ty.rows l).length : Nat)))) = _
    rw [rows_len]; rfl

theorem idxT_some {d : Nat} {l : List Ty} {i : Nat} (h : idxT d l = some i) : Ty.oks d l = false := by
  rw [oks_all]
  obtain ⟨hi, hp, _⟩ := List.findIdx?_eq_some_iff_getElem.1 h
  exact all_false hi (by simpa using hp)

theorem idxT_none {d : Nat} {l : List Ty} (h : idxT d l = none) : Ty.oks d l = true := by
  rw [oks_all, List.all_eq_true]
  intro t ht
  have := List.findIdx?_eq_none_iff.1 h t ht
  simpa using this

theorem f73_ok {d : Nat} {l : List Ty} (hl : l.length < 100000) (hd : d < 100) (h : ∀ t ∈ l, Ev E false 46 [t.t, tI d] [] (tB (t.ok d)) []) : Ev E false 73 [.one (.v (.sl (Ty.rows l))), .one (.fn (.func 74) [] [.ref (.fo 0) 0])] [⟨0, 3, [.v (.s (.int .i64 ((d + 1 : Nat) : Int)))]⟩] (tB (!Ty.oks d l)) [⟨0, 3, [.v (.s (.int .i64 ((d + 1 : Nat) : Int)))]⟩] := by
  refine ev_of_wp (d := d73) rfl rfl (Nat.le_of_ble_eq_true rfl) ?_
  simp only [go_sem, ↓reduceIte, Nat.reduceLT, Nat.reduceEqDiff, Nat.reduceAdd, Nat.reduceMul, Nat.reduceLeDiff, Nat.reduceBEq, Nat.reduceSub, Int.reduceLT, Int.reduceLE, Int.reduceEq, Int.reduceToNat, reduceCtorEq, Nat.lt_irrefl, Nat.le_refl, d73, c73]
  refine callK (by rfl) ?_
  simp only [go_sem, ↓reduceIte, Nat.reduceLT, Nat.reduceEqDiff, Nat.reduceAdd, Nat.reduceMul, Nat.reduceLeDiff, Nat.reduceBEq, Nat.reduceSub, Int.reduceLT, Int.reduceLE, Int.reduceEq, Int.reduceToNat, reduceCtorEq, Nat.lt_irrefl, Nat.le_refl]
  refine callE ((f92_ok hl hd h)) (by rfl) ?_
  cases hi : idxT d l with
  | none => simp only [go_sem, ↓reduceIte, Nat.reduceLT, Nat.reduceEqDiff, Nat.reduceAdd, Nat.reduceMul, Nat.reduceLeDiff, Nat.reduceBEq, Nat.reduceSub, Int.reduceLT, Int.reduceLE, Int.reduceEq, Int.reduceToNat, reduceCtorEq, Nat.lt_irrefl, Nat.le_refl, hi, idxI, idxT_none hi]
  | some i => simp only [go_sem, ↓reduceIte, Nat.reduceLT, Nat.reduceEqDiff, Nat.reduceAdd, Nat.reduceMul, Nat.reduceLeDiff, Nat.reduceBEq, Nat.reduceSub, Int.reduceLT, Int.reduceLE, Int.reduceEq, Int.reduceToNat, reduceCtorEq, Nat.lt_irrefl, Nat.le_refl, hi, idxI, idxT_some hi]

theorem f46_ok (N : Nat) : ∀ (t : Ty) (d : Nat), t.size ≤ N → N < 100000 → d < 100 → Ev E false 46 [t.t, tI d] [] (tB (t.ok d)) [] := by
  induction N with
  | zero => intro t d ht; obtain ⟨k, l, rfl⟩ := mk_at t; simp only [Ty.size] at ht; omega
  | succ N ih =>
  intro t d ht hN hd
  obtain ⟨k, l, rfl⟩ := mk_at t
  simp only [Ty.size] at ht
  have hl := len_size l
  refine ev_of_wp (d := d46) rfl rfl (Nat.le_of_ble_eq_true rfl) ?_
  simp only [go_sem, ↓reduceIte, Nat.reduceLT, Nat.reduceEqDiff, Nat.reduceAdd, Nat.reduceMul, Nat.reduceLeDiff, Nat.reduceBEq, Nat.reduceSub, Int.reduceLT, Int.reduceLE, Int.reduceEq, Int.reduceToNat, reduceCtorEq, Nat.lt_irrefl, Nat.le_refl, d46, c46, Ty.t, Ty.row]
  refine call0 (f67_ok) (by rfl) (by rfl) (by rfl) (by rfl) ?_
  simp only [go_sem, ↓reduceIte, Nat.reduceLT, Nat.reduceEqDiff, Nat.reduceAdd, Nat.reduceMul, Nat.reduceLeDiff, Nat.reduceBEq, Nat.reduceSub, Int.reduceLT, Int.reduceLE, Int.reduceEq, Int.reduceToNat, reduceCtorEq, Nat.lt_irrefl, Nat.le_refl]
  refine callK (by rfl) ?_
  simp only [go_sem, ↓reduceIte, Nat.reduceLT, Nat.reduceEqDiff, Nat.reduceAdd, Nat.reduceMul, Nat.reduceLeDiff, Nat.reduceBEq, Nat.reduceSub, Int.reduceLT, Int.reduceLE, Int.reduceEq, Int.reduceToNat, reduceCtorEq, Nat.lt_irrefl, Nat.le_refl]
  refine callE ((f71_ok k (Ty.rows l) 24 words (by decide))) (by rfl) ?_
  by_cases hw : wordB k = ⟨#[]⟩
  · have e := idx_unknown hw
    have e2 : Ty.ok d (.mk k l) = false := by cases d <;> simp [Ty.ok, hw]
    simp only [go_sem, ↓reduceIte, Nat.reduceLT, Nat.reduceEqDiff, Nat.reduceAdd, Nat.reduceMul, Nat.reduceLeDiff, Nat.reduceBEq, Nat.reduceSub, Int.reduceLT, Int.reduceLE, Int.reduceEq, Int.reduceToNat, reduceCtorEq, Nat.lt_irrefl, Nat.le_refl, e, idxI, e2]
  · obtain ⟨i, w, e1, e2, e3, e4, e5, e6⟩ := idx_known hw
    cases d with
    | zero => simp only [go_sem, ↓reduceIte, Nat.reduceLT, Nat.reduceEqDiff, Nat.reduceAdd, Nat.reduceMul, Nat.reduceLeDiff, Nat.reduceBEq, Nat.reduceSub, Int.reduceLT, Int.reduceLE, Int.reduceEq, Int.reduceToNat, reduceCtorEq, Nat.lt_irrefl, Nat.le_refl, e1, idxI, ncast0, Ty.ok]
    | succ d =>
      have e7 : (((d + 1 : Nat) : Int) < 1) = False := by simp; omega
      have e8 : (words.map wrow)[i]? = some (wrow w) := by rw [List.getElem?_map, e2]; rfl
      simp only [go_sem, ↓reduceIte, Nat.reduceLT, Nat.reduceEqDiff, Nat.reduceAdd, Nat.reduceMul, Nat.reduceLeDiff, Nat.reduceBEq, Nat.reduceSub, Int.reduceLT, Int.reduceLE, Int.reduceEq, Int.reduceToNat, reduceCtorEq, Nat.lt_irrefl, Nat.le_refl, e1, idxI, e7]
      refine call0 (f67_ok) (by rfl) (by rfl) (by rfl) (by rfl) ?_
      simp only [go_sem, ↓reduceIte, Nat.reduceLT, Nat.reduceEqDiff, Nat.reduceAdd, Nat.reduceMul, Nat.reduceLeDiff, Nat.reduceBEq, Nat.reduceSub, Int.reduceLT, Int.reduceLE, Int.reduceEq, Int.reduceToNat, reduceCtorEq, Nat.lt_irrefl, Nat.le_refl, e8, wrow, e3, rows_len]
      by_cases hc : l.length = cntN k
      · simp only [go_sem, ↓reduceIte, Nat.reduceLT, Nat.reduceEqDiff, Nat.reduceAdd, Nat.reduceMul, Nat.reduceLeDiff, Nat.reduceBEq, Nat.reduceSub, Int.reduceLT, Int.reduceLE, Int.reduceEq, Int.reduceToNat, reduceCtorEq, Nat.lt_irrefl, Nat.le_refl, hc]
        refine callK (by rfl) ?_
        simp only [go_sem, ↓reduceIte, Nat.reduceLT, Nat.reduceEqDiff, Nat.reduceAdd, Nat.reduceMul, Nat.reduceLeDiff, Nat.reduceBEq, Nat.reduceSub, Int.reduceLT, Int.reduceLE, Int.reduceEq, Int.reduceToNat, reduceCtorEq, Nat.lt_irrefl, Nat.le_refl]
        refine callE ((f73_ok (by omega) (show d < 100 by omega) (fun t ht' => ih t d (by have := size_mem ht'; omega) (by omega) (by omega)))) (by rfl) ?_
        simp only [go_sem, ↓reduceIte, Nat.reduceLT, Nat.reduceEqDiff, Nat.reduceAdd, Nat.reduceMul, Nat.reduceLeDiff, Nat.reduceBEq, Nat.reduceSub, Int.reduceLT, Int.reduceLE, Int.reduceEq, Int.reduceToNat, reduceCtorEq, Nat.lt_irrefl, Nat.le_refl, Ty.ok, hw, hc, Bool.not_not]
      · simp only [go_sem, ↓reduceIte, Nat.reduceLT, Nat.reduceEqDiff, Nat.reduceAdd, Nat.reduceMul, Nat.reduceLeDiff, Nat.reduceBEq, Nat.reduceSub, Int.reduceLT, Int.reduceLE, Int.reduceEq, Int.reduceToNat, reduceCtorEq, Nat.lt_irrefl, Nat.le_refl, hc, Ty.ok, hw]

theorem f17_ok (t : Ty) (ht : t.size < 100000) : Ev E false 17 [t.t] [] (tI (if t.ok 6 then 0 else 20)) [] := by
  refine ev_of_wp (d := d17) rfl rfl (Nat.le_of_ble_eq_true rfl) ?_
  have h := f46_ok t.size t 6 (Nat.le_refl _) ht (by omega)
  obtain ⟨k, l, rfl⟩ := mk_at t
  simp only [go_sem, ↓reduceIte, Nat.reduceLT, Nat.reduceEqDiff, Nat.reduceAdd, Nat.reduceMul, Nat.reduceLeDiff, Nat.reduceBEq, Nat.reduceSub, Int.reduceLT, Int.reduceLE, Int.reduceEq, Int.reduceToNat, reduceCtorEq, Nat.lt_irrefl, Nat.le_refl, d17, c17, Ty.t, Ty.row]
  refine call0 (h) (by rfl) (by rfl) (by rfl) (by rfl) ?_
  cases h6 : (Ty.mk k l).ok 6 with
  | true => simp only [go_sem, ↓reduceIte, Nat.reduceLT, Nat.reduceEqDiff, Nat.reduceAdd, Nat.reduceMul, Nat.reduceLeDiff, Nat.reduceBEq, Nat.reduceSub, Int.reduceLT, Int.reduceLE, Int.reduceEq, Int.reduceToNat, reduceCtorEq, Nat.lt_irrefl, Nat.le_refl, h6]
  | false => simp only [go_sem, ↓reduceIte, Nat.reduceLT, Nat.reduceEqDiff, Nat.reduceAdd, Nat.reduceMul, Nat.reduceLeDiff, Nat.reduceBEq, Nat.reduceSub, Int.reduceLT, Int.reduceLE, Int.reduceEq, Int.reduceToNat, reduceCtorEq, Nat.lt_irrefl, Nat.le_refl, h6, Bool.false_eq_true]

theorem f10_ok (N : Nat) : ∀ (t : Ty) (d : Nat), t.size ≤ N → N < 100000 → d < 100 → Ev E false 10 [t.t, tI d] [] (tB (t.ok d)) [] := by
  induction N with
  | zero => intro t d ht; obtain ⟨k, l, rfl⟩ := mk_at t; simp only [Ty.size] at ht; omega
  | succ N ih =>
  intro t d ht hN hd
  obtain ⟨k, l, rfl⟩ := mk_at t
  simp only [Ty.size] at ht
  have hl := len_size l
  refine ev_of_wp (d := d10) rfl rfl (Nat.le_of_ble_eq_true rfl) ?_
  cases d with
  | zero => simp only [go_sem, ↓reduceIte, Nat.reduceLT, Nat.reduceEqDiff, Nat.reduceAdd, Nat.reduceMul, Nat.reduceLeDiff, Nat.reduceBEq, Nat.reduceSub, Int.reduceLT, Int.reduceLE, Int.reduceEq, Int.reduceToNat, reduceCtorEq, Nat.lt_irrefl, Nat.le_refl, d10, c10, Ty.t, Ty.row, ncast0, Ty.ok]
  | succ d =>
  have e7 : (((d + 1 : Nat) : Int) = 0) = False := by simp; omega
  simp only [go_sem, ↓reduceIte, Nat.reduceLT, Nat.reduceEqDiff, Nat.reduceAdd, Nat.reduceMul, Nat.reduceLeDiff, Nat.reduceBEq, Nat.reduceSub, Int.reduceLT, Int.reduceLE, Int.reduceEq, Int.reduceToNat, reduceCtorEq, Nat.lt_irrefl, Nat.le_refl, d10, c10, Ty.t, Ty.row, e7]
  refine call0 (f38_ok k) (by rfl) (by rfl) (by rfl) (by rfl) ?_
  by_cases hw : wordB k = ⟨#[]⟩
  · simp only [go_sem, ↓reduceIte, Nat.reduceLT, Nat.reduceEqDiff, Nat.reduceAdd, Nat.reduceMul, Nat.reduceLeDiff, Nat.reduceBEq, Nat.reduceSub, Int.reduceLT, Int.reduceLE, Int.reduceEq, Int.reduceToNat, reduceCtorEq, Nat.lt_irrefl, Nat.le_refl, hw, Ty.ok]
  by_cases hc : l.length = cntN k
  case neg =>
    simp only [go_sem, ↓reduceIte, Nat.reduceLT, Nat.reduceEqDiff, Nat.reduceAdd, Nat.reduceMul, Nat.reduceLeDiff, Nat.reduceBEq, Nat.reduceSub, Int.reduceLT, Int.reduceLE, Int.reduceEq, Int.reduceToNat, reduceCtorEq, Nat.lt_irrefl, Nat.le_refl, hw]
    refine call0 (f39_ok k) (by rfl) (by rfl) (by rfl) (by rfl) ?_
    simp only [go_sem, ↓reduceIte, Nat.reduceLT, Nat.reduceEqDiff, Nat.reduceAdd, Nat.reduceMul, Nat.reduceLeDiff, Nat.reduceBEq, Nat.reduceSub, Int.reduceLT, Int.reduceLE, Int.reduceEq, Int.reduceToNat, reduceCtorEq, Nat.lt_irrefl, Nat.le_refl, rows_len, hc, Ty.ok, hw]
  simp only [go_sem, ↓reduceIte, Nat.reduceLT, Nat.reduceEqDiff, Nat.reduceAdd, Nat.reduceMul, Nat.reduceLeDiff, Nat.reduceBEq, Nat.reduceSub, Int.reduceLT, Int.reduceLE, Int.reduceEq, Int.reduceToNat, reduceCtorEq, Nat.lt_irrefl, Nat.le_refl, hw]
  refine call0 (f39_ok k) (by rfl) (by rfl) (by rfl) (by rfl) ?_
  simp only [go_sem, ↓reduceIte, Nat.reduceLT, Nat.reduceEqDiff, Nat.reduceAdd, Nat.reduceMul, Nat.reduceLeDiff, Nat.reduceBEq, Nat.reduceSub, Int.reduceLT, Int.reduceLE, Int.reduceEq, Int.reduceToNat, reduceCtorEq, Nat.lt_irrefl, Nat.le_refl, rows_len, hc]
  have ih' : ∀ (j : Nat) (h : j < l.length), Ev E false 10 [l[j].t, tI d] [] (tB (l[j].ok d)) [] := fun j h => ih l[j] d (by have := size_at h; omega) (by omega) (by omega)
  refine loop_ind (I := fun (j : Nat) tm bx fo => j ≤ l.length ∧ fo = [] ∧ tm 1 = tI ((d + 1 : Nat) : Int) ∧ tm 2 = .one (.ref (.loc 2 1) 0) ∧ tm 5 = tI j ∧ bx 2 = ⟨1, 29, [.v (.s (.int .i64 k)), .v (.sl (Ty.rows l))]⟩ ∧ (l.take j).all (Ty.ok d) = true) (μ := fun j => l.length - j) ?_ 0 _ _ _ ?_
  · rintro j tm bx fo ⟨hj, rfl, h1, h2, h5, b2, hn⟩ IH
    by_cases hjl : j < l.length
    · have e3 := rows_at hjl
      have e5 := ih' j hjl
      obtain ⟨k', l', he⟩ := mk_at l[j]
      rw [he] at e3 e5
      simp only [go_sem, ↓reduceIte, Nat.reduceLT, Nat.reduceEqDiff, Nat.reduceAdd, Nat.reduceMul, Nat.reduceLeDiff, Nat.reduceBEq, Nat.reduceSub, Int.reduceLT, Int.reduceLE, Int.reduceEq, Int.reduceToNat, reduceCtorEq, Nat.lt_irrefl, Nat.le_refl, h1, h2, h5, b2, rows_len, hjl, e3, Ty.row, wrap_pred (show d < 9223372036854775807 by omega)]
      refine call0 (e5) (by rfl) (by rfl) (by rfl) (by rfl) ?_
      have et := all_take_succ (p := Ty.ok d) hjl
      rw [he, hn] at et
      cases hk : (Ty.mk k' l').ok d with
      | false =>
        have : Ty.oks d l = false := by rw [oks_all]; exact all_false hjl (by rw [he]; exact hk)
        simp only [go_sem, ↓reduceIte, Nat.reduceLT, Nat.reduceEqDiff, Nat.reduceAdd, Nat.reduceMul, Nat.reduceLeDiff, Nat.reduceBEq, Nat.reduceSub, Int.reduceLT, Int.reduceLE, Int.reduceEq, Int.reduceToNat, reduceCtorEq, Nat.lt_irrefl, Nat.le_refl, hk, h1, h2, h5, Ty.ok, this]
      | true =>
        rw [hk] at et
        simp only [go_sem, ↓reduceIte, Nat.reduceLT, Nat.reduceEqDiff, Nat.reduceAdd, Nat.reduceMul, Nat.reduceLeDiff, Nat.reduceBEq, Nat.reduceSub, Int.reduceLT, Int.reduceLE, Int.reduceEq, Int.reduceToNat, reduceCtorEq, Nat.lt_irrefl, Nat.le_refl, hk, h1, h2, h5]
        refine IH (j + 1) _ _ _ (by omega) ⟨by omega, rfl, h1, h2, ?_, b2, et⟩
        show T.one (C.v (V.s (Value.int IntKind.i64 (IntKind.i64.wrap (j + 1))))) = _
        rw [wrap_succ (by omega)]; rfl
    · have : Ty.oks d l = true := by rw [oks_all]; rw [List.take_of_length_le (by omega)] at hn; exact hn
      simp only [go_sem, ↓reduceIte, Nat.reduceLT, Nat.reduceEqDiff, Nat.reduceAdd, Nat.reduceMul, Nat.reduceLeDiff, Nat.reduceBEq, Nat.reduceSub, Int.reduceLT, Int.reduceLE, Int.reduceEq, Int.reduceToNat, reduceCtorEq, Nat.lt_irrefl, Nat.le_refl, h1, h2, h5, b2, rows_len, hjl]
      simp only [go_sem, ↓reduceIte, Nat.reduceLT, Nat.reduceEqDiff, Nat.reduceAdd, Nat.reduceMul, Nat.reduceLeDiff, Nat.reduceBEq, Nat.reduceSub, Int.reduceLT, Int.reduceLE, Int.reduceEq, Int.reduceToNat, reduceCtorEq, Nat.lt_irrefl, Nat.le_refl, Ty.ok, hw, hc, this]
  · exact ⟨Nat.zero_le _, rfl, rfl, rfl, rfl, rfl, rfl⟩

end Go.Dev.CB

/- Types copied, and their depth and least value. -/
namespace Go.Dev.CB
open Go Go.Dev Go.Dev.Wk

theorem take_row {l : List Ty} {j : Nat} (h : j < l.length) : (Ty.rows l).take (j + 1) = (Ty.rows l).take j ++ [l[j].row] := by
  rw [List.take_add_one, rows_at h]; rfl

theorem take_len {l : List Ty} {j : Nat} (h : j ≤ l.length) : ((Ty.rows l).take j).length = j := by
  rw [List.length_take, rows_len]; omega

/-- The copy handed over: its cells. -/
def Ty.flat (l : List Ty) : List V := (Ty.rows l).flatten
def Ty.tA : Ty → T
  | .mk k [] => .agg [.v (.s (.int .i64 k)), .v (.sl [])]
  | .mk k l => .agg [.v (.s (.int .i64 k)), .osl (.fo 0) 2 0 l.length]
def Ty.args : Ty → List Ty
  | .mk _ l => l
def Ty.kind : Ty → Int
  | .mk k _ => k

theorem flat_take {l : List Ty} {j : Nat} (h : j < l.length) {k : Int} {l' : List Ty} (he : l[j] = .mk k l') : ((Ty.rows l).take (j + 1)).flatten.map C.v = ((Ty.rows l).take j).flatten.map C.v ++ [.v (.s (.int .i64 k)), .v (.sl (Ty.rows l'))] := by
  rw [take_row h, he, List.flatten_append, List.map_append]; rfl

theorem flat_take_len {l : List Ty} {j : Nat} (h : j ≤ l.length) : (((Ty.rows l).take j).flatten.map C.v).length = j * 2 := by
  rw [List.length_map, flat_len (allSz_take (allSz_rows l) j), take_len h]

/-- What clone leaves, whichever way it goes out. -/
theorem f44_wp (k : Int) (l : List Ty) (hl : l.length < 100000) (ad : Bool) (r : T) (fo' : List Ob) (hc : ∀ t ∈ l, Ev E false 44 [t.t] [] t.t [])
    (h0 : l = [] → ∀ tm bx, bx 2 = ⟨1, 24, [.v (.s (.int .i64 k)), .esl]⟩ → finish ad (ofF 23 46 tm bx []) [.agg [.v (.s (.int .i64 k)), .esl]] = some (r, fo'))
    (h1 : l ≠ [] → ∀ tm bx, (bx 17).cs = (Ty.flat l).map .v → finish ad (ofF 23 46 tm bx []) [.agg [.v (.s (.int .i64 k)), .osl (.loc 17 (bx 17).g) 2 0 l.length]] = some (r, fo')) :
    Ev E ad 44 [(Ty.mk k l).t] [] r fo' := by
  refine ev_of_wp (d := d44) rfl rfl (Nat.le_of_ble_eq_true rfl) ?_
  generalize hQ : Wk.Fin d44.res ad r fo' = Q
  simp only [go_sem, ↓reduceIte, Nat.reduceLT, Nat.reduceEqDiff, Nat.reduceAdd, Nat.reduceMul, Nat.reduceLeDiff, Nat.reduceBEq, Nat.reduceSub, Int.reduceLT, Int.reduceLE, Int.reduceEq, Int.reduceToNat, reduceCtorEq, Nat.lt_irrefl, Nat.le_refl, d44, c44, Ty.t, Ty.row]
  refine loop_ind (I := fun (j : Nat) tm bx fo => j ≤ l.length ∧ fo = [] ∧ tm 1 = .one (.ref (.loc 1 1) 0) ∧ tm 2 = .one (.ref (.loc 2 1) 0) ∧ tm 7 = .one (.v (.sl (Ty.rows l))) ∧ tm 8 = tI l.length ∧ tm 9 = tI j ∧
      bx 1 = ⟨1, 24, [.v (.s (.int .i64 k)), .v (.sl (Ty.rows l))]⟩ ∧ bx 2 = ⟨1, 24, [.v (.s (.int .i64 0)), .esl]⟩ ∧
      ((j = 0 ∧ tm 3 = .one .esl) ∨ (0 < j ∧ tm 3 = .one (.osl (.loc 17 (bx 17).g) 2 0 j) ∧ (bx 17).cs = ((Ty.rows l).take j).flatten.map .v))) (μ := fun j => l.length - j) ?_ 0 _ _ _ ?_
  · rintro j tm bx fo ⟨hj, rfl, t1, t2, t7, t8, t9, b1, b2, h3⟩ IH
    by_cases hjl : j < l.length
    · have e3 := rows_at hjl
      have et : ∀ k' l', l[j] = .mk k' l' → _ := fun k' l' => flat_take hjl
      have e5 := hc l[j] (List.getElem_mem hjl)
      obtain ⟨k', l', he⟩ := mk_at l[j]
      have et := et k' l' he
      rw [he] at e3 e5
      simp only [go_sem, ↓reduceIte, Nat.reduceLT, Nat.reduceEqDiff, Nat.reduceAdd, Nat.reduceMul, Nat.reduceLeDiff, Nat.reduceBEq, Nat.reduceSub, Int.reduceLT, Int.reduceLE, Int.reduceEq, Int.reduceToNat, reduceCtorEq, Nat.lt_irrefl, Nat.le_refl, t1, t2, t7, t8, t9, b1, b2, hjl, e3, Ty.row]
      refine call0 (e5) (by rfl) (by rfl) (by rfl) (by rfl) ?_
      rcases h3 with ⟨rfl, h3⟩ | ⟨hj0, h3, b17⟩
      · simp only [go_sem, ↓reduceIte, Nat.reduceLT, Nat.reduceEqDiff, Nat.reduceAdd, Nat.reduceMul, Nat.reduceLeDiff, Nat.reduceBEq, Nat.reduceSub, Int.reduceLT, Int.reduceLE, Int.reduceEq, Int.reduceToNat, reduceCtorEq, Nat.lt_irrefl, Nat.le_refl, t1, t2, t7, t8, t9, b1, b2, h3, Ty.t, Ty.row, appEsl, okB (n := 0 + 1) (b := 32) (by omega)]
        refine IH 1 _ _ _ (by omega) ⟨by omega, rfl, t1, t2, t7, t8, rfl, b1, b2, Or.inr ⟨by omega, rfl, ?_⟩⟩
        rw [et]; rfl
      · have hlen := flat_take_len hj
        have hj1 : ¬ j = 0 := by omega
        simp only [go_sem, ↓reduceIte, Nat.reduceLT, Nat.reduceEqDiff, Nat.reduceAdd, Nat.reduceMul, Nat.reduceLeDiff, Nat.reduceBEq, Nat.reduceSub, Int.reduceLT, Int.reduceLE, Int.reduceEq, Int.reduceToNat, reduceCtorEq, Nat.lt_irrefl, Nat.le_refl, t1, t2, t7, t8, t9, b1, b2, h3, Ty.t, Ty.row, b17, hlen, hj1, okB (n := j + (0 + 1)) (b := 32) (by omega), ne_eq]
        refine IH (j + 1) _ _ _ (by omega) ⟨by omega, rfl, t1, t2, t7, t8, ?_, b1, b2, Or.inr ⟨by omega, rfl, ?_⟩⟩
        · show T.one (C.v (V.s (Value.int IntKind.i64 (IntKind.i64.wrap (j + 1))))) = _
          rw [wrap_succ (by omega)]; rfl
        · rw [et]; rfl
    · obtain rfl : j = l.length := by omega
      simp only [go_sem, ↓reduceIte, Nat.reduceLT, Nat.reduceEqDiff, Nat.reduceAdd, Nat.reduceMul, Nat.reduceLeDiff, Nat.reduceBEq, Nat.reduceSub, Int.reduceLT, Int.reduceLE, Int.reduceEq, Int.reduceToNat, reduceCtorEq, Nat.lt_irrefl, Nat.le_refl, t1, t2, t7, t8, t9, b1, b2]
      rcases h3 with ⟨hl0, h3⟩ | ⟨hj0, h3, b17⟩
      · obtain rfl : l = [] := List.length_eq_zero_iff.1 hl0
        simp only [go_sem, ↓reduceIte, Nat.reduceLT, Nat.reduceEqDiff, Nat.reduceAdd, Nat.reduceMul, Nat.reduceLeDiff, Nat.reduceBEq, Nat.reduceSub, Int.reduceLT, Int.reduceLE, Int.reduceEq, Int.reduceToNat, reduceCtorEq, Nat.lt_irrefl, Nat.le_refl, t1, t2, b1, b2, h3]
        subst hQ
        simp only [go_sem, ↓reduceIte, Nat.reduceLT, Nat.reduceEqDiff, Nat.reduceAdd, Nat.reduceMul, Nat.reduceLeDiff, Nat.reduceBEq, Nat.reduceSub, Int.reduceLT, Int.reduceLE, Int.reduceEq, Int.reduceToNat, reduceCtorEq, Nat.lt_irrefl, Nat.le_refl, d44, t2]
        exact h0 rfl _ _ rfl
      · simp only [go_sem, ↓reduceIte, Nat.reduceLT, Nat.reduceEqDiff, Nat.reduceAdd, Nat.reduceMul, Nat.reduceLeDiff, Nat.reduceBEq, Nat.reduceSub, Int.reduceLT, Int.reduceLE, Int.reduceEq, Int.reduceToNat, reduceCtorEq, Nat.lt_irrefl, Nat.le_refl, t1, t2, b1, b2, h3]
        subst hQ
        simp only [go_sem, ↓reduceIte, Nat.reduceLT, Nat.reduceEqDiff, Nat.reduceAdd, Nat.reduceMul, Nat.reduceLeDiff, Nat.reduceBEq, Nat.reduceSub, Int.reduceLT, Int.reduceLE, Int.reduceEq, Int.reduceToNat, reduceCtorEq, Nat.lt_irrefl, Nat.le_refl, d44, t2]
        refine h1 (by rintro rfl; simp at hj0) _ _ ?_
        rw [List.take_of_length_le (by rw [rows_len]; exact Nat.le_refl _)] at b17
        exact b17
  · refine ⟨Nat.zero_le _, rfl, rfl, rfl, rfl, ?_, rfl, rfl, rfl, Or.inl ⟨rfl, rfl⟩⟩
    show T.one (C.v (V.s (Value.int IntKind.i64 ((Ty.rows l).length : Nat)))) = _
    rw [rows_len]; rfl

theorem f44_ok (N : Nat) : ∀ t : Ty, t.size ≤ N → N ≤ 100000 → Ev E false 44 [t.t] [] t.t [] := by
  induction N with
  | zero => intro t ht; obtain ⟨k, l, rfl⟩ := mk_at t; simp only [Ty.size] at ht; omega
  | succ N ih =>
  intro t ht hN
  obtain ⟨k, l, rfl⟩ := mk_at t
  simp only [Ty.size] at ht
  have hl := len_size l
  refine f44_wp k l (by omega) false _ _ (fun t h => ih t (by have := size_mem h; omega) (by omega)) ?_ ?_
  · rintro rfl tm bx h
    simp only [go_sem, ↓reduceIte, Nat.reduceLT, Nat.reduceEqDiff, Nat.reduceAdd, Nat.reduceMul, Nat.reduceLeDiff, Nat.reduceBEq, Nat.reduceSub, Int.reduceLT, Int.reduceLE, Int.reduceEq, Int.reduceToNat, reduceCtorEq, Nat.lt_irrefl, Nat.le_refl, h]; rfl
  · intro hn tm bx h
    have e : (Ty.flat l).length = l.length * 2 := by rw [Ty.flat, flat_len (allSz_rows l), rows_len]
    have e2 : chunk 2 l.length (Ty.flat l) = Ty.rows l := by
      have := chunk_flat (allSz_rows l); rw [rows_len] at this; exact this
    simp only [go_sem, ↓reduceIte, Nat.reduceLT, Nat.reduceEqDiff, Nat.reduceAdd, Nat.reduceMul, Nat.reduceLeDiff, Nat.reduceBEq, Nat.reduceSub, Int.reduceLT, Int.reduceLE, Int.reduceEq, Int.reduceToNat, reduceCtorEq, Nat.lt_irrefl, Nat.le_refl, h, List.length_map, e, e2, Nat.zero_add]
    rfl

theorem f44_okA {k : Int} {l : List Ty} (ht : (Ty.mk k l).size ≤ 100000) : Ev E true 44 [(Ty.mk k l).t] [] (Ty.mk k l).tA [⟨0, 0, (Ty.flat l).map .v⟩] := by
  simp only [Ty.size] at ht
  have hl := len_size l
  refine f44_wp k l (by omega) true _ _ (fun t h => f44_ok t.size t (Nat.le_refl _) (by have := size_mem h; omega)) ?_ ?_
  · rintro rfl tm bx h
    simp only [go_sem, ↓reduceIte, Nat.reduceLT, Nat.reduceEqDiff, Nat.reduceAdd, Nat.reduceMul, Nat.reduceLeDiff, Nat.reduceBEq, Nat.reduceSub, Int.reduceLT, Int.reduceLE, Int.reduceEq, Int.reduceToNat, reduceCtorEq, Nat.lt_irrefl, Nat.le_refl, h, List.flatMap_cons]; rfl
  · intro hn tm bx h
    obtain ⟨t, l', rfl⟩ : ∃ t l', l = t :: l' := by cases l; exact absurd rfl hn; exact ⟨_, _, rfl⟩
    simp only [go_sem, ↓reduceIte, Nat.reduceLT, Nat.reduceEqDiff, Nat.reduceAdd, Nat.reduceMul, Nat.reduceLeDiff, Nat.reduceBEq, Nat.reduceSub, Int.reduceLT, Int.reduceLE, Int.reduceEq, Int.reduceToNat, reduceCtorEq, Nat.lt_irrefl, Nat.le_refl, h, Ty.tA]

/-- What Make gives. -/
theorem f14_ok {k : Int} {l : List Ty} (ht : (Ty.mk k l).size < 100000) : Ev E false 14 [tI k, .one (.v (.sl (Ty.rows l)))] [] (if (Ty.mk k l).ok 6 = true then .tup [(Ty.mk k l).t, tI 0] else .tup [.agg [.v (.s (.int .i64 0)), .v (.sl [])], tI 20]) [] := by
  refine ev_of_wp (d := d14) rfl rfl (Nat.le_of_ble_eq_true rfl) ?_
  simp only [go_sem, ↓reduceIte, Nat.reduceLT, Nat.reduceEqDiff, Nat.reduceAdd, Nat.reduceMul, Nat.reduceLeDiff, Nat.reduceBEq, Nat.reduceSub, Int.reduceLT, Int.reduceLE, Int.reduceEq, Int.reduceToNat, reduceCtorEq, Nat.lt_irrefl, Nat.le_refl, d14, c14]
  refine call0 (f17_ok (.mk k l) ht) (by rfl) (by rfl) (by rfl) (by rfl) ?_
  cases h6 : (Ty.mk k l).ok 6 with
  | false =>
    simp only [go_sem, ↓reduceIte, Nat.reduceLT, Nat.reduceEqDiff, Nat.reduceAdd, Nat.reduceMul, Nat.reduceLeDiff, Nat.reduceBEq, Nat.reduceSub, Int.reduceLT, Int.reduceLE, Int.reduceEq, Int.reduceToNat, reduceCtorEq, Nat.lt_irrefl, Nat.le_refl, h6, Bool.false_eq_true]
  | true =>
    simp only [go_sem, ↓reduceIte, Nat.reduceLT, Nat.reduceEqDiff, Nat.reduceAdd, Nat.reduceMul, Nat.reduceLeDiff, Nat.reduceBEq, Nat.reduceSub, Int.reduceLT, Int.reduceLE, Int.reduceEq, Int.reduceToNat, reduceCtorEq, Nat.lt_irrefl, Nat.le_refl, h6]
    cases l with
    | nil =>
      refine callA0 (d := 18) (f44_okA (k := k) (l := []) (by omega)) (by rfl) (by rfl) (by rfl) (by omega) (by omega) (toVs_map _) (by rfl) ?_
      simp only [go_sem, ↓reduceIte, Nat.reduceLT, Nat.reduceEqDiff, Nat.reduceAdd, Nat.reduceMul, Nat.reduceLeDiff, Nat.reduceBEq, Nat.reduceSub, Int.reduceLT, Int.reduceLE, Int.reduceEq, Int.reduceToNat, reduceCtorEq, Nat.lt_irrefl, Nat.le_refl]
      rfl
    | cons a l =>
      refine callA0 (d := 18) (f44_okA (k := k) (l := a :: l) (by omega)) (by rfl) (by rfl) (by rfl) (by omega) (by omega) (toVs_map _) (by rfl) ?_
      have e : (Ty.flat (a :: l)).length = (l.length + 1) * 2 := by rw [Ty.flat, flat_len (allSz_rows (a :: l)), rows_len, List.length_cons]
      have e2 : chunk 2 (l.length + 1) (Ty.flat (a :: l)) = Ty.rows (a :: l) := by
        have := chunk_flat (allSz_rows (a :: l)); rw [rows_len, List.length_cons] at this; exact this
      simp only [go_sem, ↓reduceIte, Nat.reduceLT, Nat.reduceEqDiff, Nat.reduceAdd, Nat.reduceMul, Nat.reduceLeDiff, Nat.reduceBEq, Nat.reduceSub, Int.reduceLT, Int.reduceLE, Int.reduceEq, Int.reduceToNat, reduceCtorEq, Nat.lt_irrefl, Nat.le_refl, Ty.tA, e, e2, Nat.zero_add]
      rfl

end Go.Dev.CB

/- Which types are the same; which values. -/
namespace Go.Dev.CB
open Go Go.Dev Go.Dev.Wk

mutual
def Ty.same : Ty → Ty → Bool
  | .mk k l, .mk k' l' => decide (k = k') && decide (l.length = l'.length) && Ty.sames l l'
def Ty.sames : List Ty → List Ty → Bool
  | [], _ => true
  | _ :: _, [] => true
  | t :: ts, u :: us => t.same u && Ty.sames ts us
end

mutual
theorem same_self : ∀ t : Ty, t.same t = true
  | .mk k l => by simp only [Ty.same, decide_true, Bool.true_and, sames_self l]
theorem sames_self : ∀ l : List Ty, Ty.sames l l = true
  | [] => rfl
  | t :: ts => by simp only [Ty.sames, same_self t, sames_self ts, Bool.and_self]
end

theorem sames_step {l l' : List Ty} {j : Nat} (h : j < l.length) (h' : j < l'.length) : Ty.sames (l.drop j) (l'.drop j) = (l[j].same l'[j] && Ty.sames (l.drop (j + 1)) (l'.drop (j + 1))) := by
  rw [List.drop_eq_getElem_cons h, List.drop_eq_getElem_cons h']; rfl

theorem f16_ok (N : Nat) : ∀ t u : Ty, t.size ≤ N → N ≤ 100000 → Ev E false 16 [t.t, u.t] [] (tB (t.same u)) [] := by
  induction N with
  | zero => intro t u ht; obtain ⟨k, l, rfl⟩ := mk_at t; simp only [Ty.size] at ht; omega
  | succ N ih =>
  intro t u ht hN
  obtain ⟨k, l, rfl⟩ := mk_at t
  obtain ⟨k', l', rfl⟩ := mk_at u
  simp only [Ty.size] at ht
  have hl := len_size l
  refine ev_of_wp (d := d16) rfl rfl (Nat.le_of_ble_eq_true rfl) ?_
  by_cases hk : k = k'
  case neg => simp only [go_sem, ↓reduceIte, Nat.reduceLT, Nat.reduceEqDiff, Nat.reduceAdd, Nat.reduceMul, Nat.reduceLeDiff, Nat.reduceBEq, Nat.reduceSub, Int.reduceLT, Int.reduceLE, Int.reduceEq, Int.reduceToNat, reduceCtorEq, Nat.lt_irrefl, Nat.le_refl, d16, c16, Ty.t, Ty.row, hk, Ty.same]
  subst hk
  by_cases hn : l.length = l'.length
  case neg => simp only [go_sem, ↓reduceIte, Nat.reduceLT, Nat.reduceEqDiff, Nat.reduceAdd, Nat.reduceMul, Nat.reduceLeDiff, Nat.reduceBEq, Nat.reduceSub, Int.reduceLT, Int.reduceLE, Int.reduceEq, Int.reduceToNat, reduceCtorEq, Nat.lt_irrefl, Nat.le_refl, d16, c16, Ty.t, Ty.row, rows_len, hn, Ty.same]
  simp only [go_sem, ↓reduceIte, Nat.reduceLT, Nat.reduceEqDiff, Nat.reduceAdd, Nat.reduceMul, Nat.reduceLeDiff, Nat.reduceBEq, Nat.reduceSub, Int.reduceLT, Int.reduceLE, Int.reduceEq, Int.reduceToNat, reduceCtorEq, Nat.lt_irrefl, Nat.le_refl, d16, c16, Ty.t, Ty.row, rows_len, hn]
  have es : (Ty.mk k l).same (.mk k l') = Ty.sames l l' := by simp only [Ty.same, hn, decide_true, Bool.true_and]
  rw [es]
  refine loop_ind (I := fun (j : Nat) tm bx fo => j ≤ l.length ∧ fo = [] ∧ tm 2 = .one (.ref (.loc 2 1) 0) ∧ tm 3 = .one (.ref (.loc 3 1) 0) ∧ tm 5 = tI j ∧ bx 2 = ⟨1, 29, [.v (.s (.int .i64 k)), .v (.sl (Ty.rows l))]⟩ ∧ bx 3 = ⟨1, 29, [.v (.s (.int .i64 k)), .v (.sl (Ty.rows l'))]⟩ ∧
      Ty.sames (l.drop j) (l'.drop j) = Ty.sames l l') (μ := fun j => l.length - j) ?_ 0 _ _ _ ⟨Nat.zero_le _, rfl, rfl, rfl, rfl, rfl, rfl, by simp only [List.drop_zero]⟩
  rintro j tm bx fo ⟨hj, rfl, t2, t3, t5, b2, b3, hs⟩ IH
  by_cases hjl : j < l.length
  · have hjl' : j < l'.length := by omega
    have e3 := rows_at hjl
    have e4 := rows_at hjl'
    have e5 := ih l[j] l'[j] (by have := size_at hjl; omega) (by omega)
    have e6 := sames_step hjl hjl'
    rw [hs] at e6
    obtain ⟨ka, la, hea⟩ := mk_at l[j]
    obtain ⟨kb, lb, heb⟩ := mk_at l'[j]
    rw [hea] at e3
    rw [heb] at e4
    rw [hea, heb] at e5 e6
    simp only [go_sem, ↓reduceIte, Nat.reduceLT, Nat.reduceEqDiff, Nat.reduceAdd, Nat.reduceMul, Nat.reduceLeDiff, Nat.reduceBEq, Nat.reduceSub, Int.reduceLT, Int.reduceLE, Int.reduceEq, Int.reduceToNat, reduceCtorEq, Nat.lt_irrefl, Nat.le_refl, t2, t3, t5, b2, b3, rows_len, hjl, e3, e4, Ty.row]
    refine call0 (e5) (by rfl) (by rfl) (by rfl) (by rfl) ?_
    cases hk : (Ty.mk ka la).same (Ty.mk kb lb) with
    | false =>
      rw [hk, Bool.false_and] at e6
      simp only [go_sem, ↓reduceIte, Nat.reduceLT, Nat.reduceEqDiff, Nat.reduceAdd, Nat.reduceMul, Nat.reduceLeDiff, Nat.reduceBEq, Nat.reduceSub, Int.reduceLT, Int.reduceLE, Int.reduceEq, Int.reduceToNat, reduceCtorEq, Nat.lt_irrefl, Nat.le_refl, hk, e6]
    | true =>
      rw [hk, Bool.true_and] at e6
      simp only [go_sem, ↓reduceIte, Nat.reduceLT, Nat.reduceEqDiff, Nat.reduceAdd, Nat.reduceMul, Nat.reduceLeDiff, Nat.reduceBEq, Nat.reduceSub, Int.reduceLT, Int.reduceLE, Int.reduceEq, Int.reduceToNat, reduceCtorEq, Nat.lt_irrefl, Nat.le_refl, hk, t5]
      refine IH (j + 1) _ _ _ (by omega) ⟨by omega, rfl, t2, t3, ?_, b2, b3, e6.symm⟩
      show T.one (C.v (V.s (Value.int IntKind.i64 (IntKind.i64.wrap (j + 1))))) = _
      rw [wrap_succ (by omega)]; rfl
  · obtain rfl : j = l.length := by omega
    rw [List.drop_length] at hs
    have : Ty.sames l l' = true := hs.symm
    simp only [go_sem, ↓reduceIte, Nat.reduceLT, Nat.reduceEqDiff, Nat.reduceAdd, Nat.reduceMul, Nat.reduceLeDiff, Nat.reduceBEq, Nat.reduceSub, Int.reduceLT, Int.reduceLE, Int.reduceEq, Int.reduceToNat, reduceCtorEq, Nat.lt_irrefl, Nat.le_refl, t2, t3, t5, b2, b3, rows_len, hjl, this]

end Go.Dev.CB
