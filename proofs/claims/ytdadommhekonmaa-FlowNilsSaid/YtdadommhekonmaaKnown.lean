/-
  What the statements of this seat ask last: whether the program does at one place what the document gives. It is so. No statement of the seat stands here.
-/
import Derived.Test.YtdadommhekonmaaBase
import Derived.Test.YtdadommhekonmaaAmY
namespace Go.Proofs.Ytdadommhekonmaa
open Go Go.Am

set_option maxRecDepth 100000 in
theorem known_eval : (callN Try.prog prims 400 9 [] []).map (·.1) = some (.bool true) := by kernel_rfl
def primsK : Prims := withV prims 9 (.bool true)
theorem primsK_ok : PrOk Try.prog primsK := withV_ok mixed noNum prims_ok rfl known_eval
end Go.Proofs.Ytdadommhekonmaa
