/-
  What the program of this seat gives to the abstract machine: the lock's numbers, its facts. No statement of the seat stands here.
-/
import Derived.Test.YtdadommhekonmaaRows
import Derived.Test.YtdadommhekonmaaAmX
import Derived.KernelRfl
namespace Go.Proofs.Ytdadommhekonmaa
open Go Go.Am Go.Conc.Locks

abbrev muLink : MuLink := { lock := 43, unlock := 44, ilock := 72, iunlock := 73, lockSlow := 93, unlockSlow := 96, disable := 89, enable := 91, acquire := 92, relMerge := 94, cas32 := 90, add32 := 95, tMutex := 87, tIMutex := 85, tPMutex := 150, tPIMutex := 160, tPI32 := 162, tUP := 164, tNoCopy := 82, tU32 := 83 }
theorem muLib : MuLib Try.prog muLink := by
  constructor <;> first | kernel_rfl | (intro w; kernel_rfl)
def prims : Prims := muPr muLink
theorem prims_ok : PrOk Try.prog prims := muPr_ok muLib
theorem noNum : NoNum Try.prog := noNum_of (by kernel_rfl)
theorem mixed : Try.prog.follows .mixedOrders = true := by kernel_rfl
theorem own : ownKnob Try.prog.godebug = none := by kernel_rfl
theorem laidOut : laidOutB Try.prog = true := by kernel_rfl
end Go.Proofs.Ytdadommhekonmaa
