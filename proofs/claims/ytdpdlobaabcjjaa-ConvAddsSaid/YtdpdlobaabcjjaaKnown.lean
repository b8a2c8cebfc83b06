/-
  What the statements of this seat ask last: whether the program does at one place what the document gives. It is so. No statement of the seat stands here.
-/
import Derived.Test.YtdpdlobaabcjjaaBase
import Derived.Test.YtdpdlobaabcjjaaAmZ
namespace Go.Proofs.Ytdpdlobaabcjjaa
open Go Go.Am

set_option maxRecDepth 100000 in
theorem known_eval : (callN Try.prog prims 400 10 [] []).map (·.1) = some (.bool true) := by kernel_rfl
def primsK : Prims := withV prims 10 (.bool true)
theorem primsK_ok : PrOk Try.prog primsK := withV_ok mixed noNum prims_ok prims_ok rfl known_eval
/-- The same, with the new rows of a call kept apart. -/
noncomputable def pr : Prims := withV primsG 10 (.bool true)
theorem pr_ok : PrOk Try.prog pr := withV_ok mixed noNum prims_ok primsG_ok rfl known_eval
theorem known_call (H : Hp) : callL Try.prog pr 10 [] H = some (.bool true, H) := by
  rw [callL_eq]; rfl
end Go.Proofs.Ytdpdlobaabcjjaa
