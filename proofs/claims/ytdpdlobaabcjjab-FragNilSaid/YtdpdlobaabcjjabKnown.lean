/-
  What the statements of this seat ask last: whether the policies do what the document gives. It is so. No statement of the seat stands here.
-/
import Derived.Test.YtdpdlobaabcjjabBase
import Derived.Test.YtdpdlobaabcjjabAmY
namespace Go.Proofs.Ytdpdlobaabcjjab
open Go Go.Am

set_option maxRecDepth 100000 in
theorem known_eval : (callN Try.prog prims 400 11 [] []).map (·.1) = some (.bool true) := by kernel_rfl
def prims18 : Prims := withV prims 11 (.bool true)
theorem prims18_ok : PrOk Try.prog prims18 := withV_ok mixed noNum prims_ok rfl known_eval
end Go.Proofs.Ytdpdlobaabcjjab
