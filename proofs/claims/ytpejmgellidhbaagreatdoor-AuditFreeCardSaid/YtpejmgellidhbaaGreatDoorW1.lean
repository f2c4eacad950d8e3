/-
  The numbers under which the program holds sync.WaitGroup's functions and types; that it holds them.
-/
import Derived.Test.YtpejmgellidhbaaGreatDoorP5
import Derived.Test.YtpejmgellidhbaaGreatDoorProg
import Derived.Conc.WgGenN3
import Derived.Conc.WgWords
import Derived.KernelRfl
set_option linter.all false
namespace Go.Proofs.YtpejmgellidhbaaGreatDoor
open Go Go.Conc Go.Proofs

abbrev link : Go.Conc.Lib.WgLink := { add := 27, done := 29, wait := 32, relMerge := 58, disable := 59, enable := 60, inBubble := 61, associate := 62, fatal := 63, uOr := 64, uAdd := 65, raceRead := 66, uLoad := 67, uStore := 68, disassociate := 69, semrelease := 70, acquire := 74, isAssociated := 75, uCas := 76, raceWrite := 77, semacquire := 78, orU64 := 100, addU64 := 101, loadU64 := 102, storeU64 := 103, casU64 := 107, tWgP := 113, tUP := 115, tAssoc := 116, tWg := 87, tAU := 85, tU64 := 83, tUint := 100, tU32 := 46, tPU32 := 120, tPAU := 147, tPU64 := 149, tNoCopy := 45, tANoCopy := 81, tAlign64 := 82 }
theorem wgLib : Go.Conc.Lib.WgLib Tryz.prog link :=
  ⟨Tryz.func27, Tryz.func29, Tryz.func32, Tryz.func58, Tryz.func59, Tryz.func60, Tryz.func61, Tryz.func62, Tryz.func63, Tryz.func64, Tryz.func65, Tryz.func66, Tryz.func67, Tryz.func68, Tryz.func69, Tryz.func70, Tryz.func74, Tryz.func75, Tryz.func76, Tryz.func77, Tryz.func78, Tryz.func100, Tryz.func101, Tryz.func102, Tryz.func103, Tryz.func107, Tryz.underlying113, Tryz.runUnderlying113, Tryz.sizeOf113, Tryz.isAgg113, Tryz.zeroValue113, Tryz.underlying115, Tryz.runUnderlying115, Tryz.sizeOf115, Tryz.isAgg115, Tryz.zeroValue115, Tryz.underlying116, Tryz.runUnderlying116, Tryz.sizeOf116, Tryz.isAgg116, Tryz.zeroValue116, Tryz.underlying87, Tryz.runUnderlying87, Tryz.sizeOf87, Tryz.isAgg87, Tryz.zeroValue87, Tryz.underlying85, Tryz.runUnderlying85, Tryz.sizeOf85, Tryz.isAgg85, Tryz.zeroValue85, Tryz.underlying83, Tryz.runUnderlying83, Tryz.sizeOf83, Tryz.isAgg83, Tryz.zeroValue83, Tryz.underlying100, Tryz.runUnderlying100, Tryz.sizeOf100, Tryz.isAgg100, Tryz.zeroValue100, Tryz.underlying46, Tryz.runUnderlying46, Tryz.sizeOf46, Tryz.isAgg46, Tryz.zeroValue46, Tryz.underlying120, Tryz.runUnderlying120, Tryz.sizeOf120, Tryz.isAgg120, Tryz.zeroValue120, Tryz.underlying147, Tryz.runUnderlying147, Tryz.sizeOf147, Tryz.isAgg147, Tryz.zeroValue147, Tryz.underlying149, Tryz.runUnderlying149, Tryz.sizeOf149, Tryz.isAgg149, Tryz.zeroValue149, Tryz.underlying0, Tryz.runUnderlying0, Tryz.sizeOf0, Tryz.isAgg0, Tryz.zeroValue0, Tryz.underlying3, Tryz.runUnderlying3, Tryz.sizeOf3, Tryz.isAgg3, Tryz.zeroValue3, Tryz.underlying4, Tryz.runUnderlying4, Tryz.sizeOf4, Tryz.isAgg4, Tryz.zeroValue4, Tryz.underlying9, Tryz.runUnderlying9, Tryz.sizeOf9, Tryz.isAgg9, Tryz.zeroValue9, Tryz.underlying20, Tryz.runUnderlying20, Tryz.sizeOf20, Tryz.isAgg20, Tryz.zeroValue20, Tryz.underlying21, Tryz.runUnderlying21, Tryz.sizeOf21, Tryz.isAgg21, Tryz.zeroValue21, by kernel_rfl, by kernel_rfl⟩
end Go.Proofs.YtpejmgellidhbaaGreatDoor
