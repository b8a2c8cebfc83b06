/-
  What the program of this seat gives to the abstract machine: the lock's numbers, its facts. No statement of the seat stands here.
-/
import Derived.Test.YtdpdlobaabcjjabRows
import Derived.Test.YtdpdlobaabcjjabAmX
import Derived.KernelRfl
namespace Go.Proofs.Ytdpdlobaabcjjab
open Go Go.Am Go.Conc.Locks

abbrev muLink : MuLink := { lock := 42, unlock := 43, ilock := 68, iunlock := 69, lockSlow := 81, unlockSlow := 84, disable := 77, enable := 79, acquire := 80, relMerge := 82, cas32 := 78, add32 := 83, tMutex := 79, tIMutex := 77, tPMutex := 117, tPIMutex := 125, tPI32 := 127, tUP := 129, tNoCopy := 74, tU32 := 75 }
theorem muLib : MuLib Try.prog muLink := by
  constructor <;> first | kernel_rfl | (intro w; kernel_rfl)
def prims : Prims := muPr muLink
theorem prims_ok : PrOk Try.prog prims := muPr_ok muLib gcId_ok
noncomputable def primsG : Prims := muPr muLink gcC
theorem primsG_ok : PrOk Try.prog primsG := muPr_ok muLib gcC_ok
theorem noNum : NoNum Try.prog := noNum_of (by kernel_rfl)
theorem mixed : Try.prog.follows .mixedOrders = true := by kernel_rfl
theorem own : ownKnob Try.prog.godebug = none := by kernel_rfl
theorem laidOut : laidOutB Try.prog = true := by kernel_rfl
end Go.Proofs.Ytdpdlobaabcjjab
