/-
  What the program of this seat gives to the abstract machine: the lock's numbers, its facts. No statement of the seat stands here.
-/
import Derived.Test.YtdpdlobaabcjjaaRows
import Derived.Test.YtdpdlobaabcjjaaAmX
import Derived.KernelRfl
namespace Go.Proofs.Ytdpdlobaabcjjaa
open Go Go.Am Go.Conc.Locks

def prims : Prims := ⟨fun _ => none, fun _ => none, fun _ r => r⟩
theorem prims_ok : PrOk Try.prog prims := ⟨fun _ _ h => (by cases h), fun _ _ h => (by cases h), gcId_ok⟩
noncomputable def primsG : Prims := ⟨fun _ => none, fun _ => none, gcC⟩
theorem primsG_ok : PrOk Try.prog primsG := ⟨fun _ _ h => (by cases h), fun _ _ h => (by cases h), gcC_ok⟩
theorem noNum : NoNum Try.prog := noNum_of (by kernel_rfl)
theorem mixed : Try.prog.follows .mixedOrders = true := by kernel_rfl
theorem own : ownKnob Try.prog.godebug = none := by kernel_rfl
theorem laidOut : laidOutB Try.prog = true := by kernel_rfl
end Go.Proofs.Ytdpdlobaabcjjaa
