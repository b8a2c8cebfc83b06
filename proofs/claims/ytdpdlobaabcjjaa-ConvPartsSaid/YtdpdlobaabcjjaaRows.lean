/-
  No cell of these rows narrows 'for every input' (looked for: loops, veiled, ifaces, maps, wideKeys, modest, calm, conditions, laid).
  DERIVED. THE GIVEN ROWS OF THIS SEAT. 7 by the template 'for every input the law returns true; each argument reads behind the call as it read before'; 0 by the template 'total and deterministic' (their statements: YtdpdlobaabcjjaaTotals.lean).
  GIVEN WITH THE SEED: the statements are not yours to turn. If you find one false, say at which input.
  Laid BY PROGRAM, IN A SANDBOX (cutbox-rows.mjs): the forced cells as the released guide's own fill.sh prints them over the translation 48ede498d2a0e77e… (all of the seat's roots in one cut). By AI agents, Wed Nov 11 2026. No macro, syntax, notation, axiom, sorry.
-/
import Derived.Test.YtdpdlobaabcjjaaChecked
import GoSem.Claim
import GoSem.ClaimJoined
import GoSem.ClaimMapViews
import Derived.JoinedTies
import Derived.KernelRfl
namespace Go.Proofs.Ytdpdlobaabcjjaa
/- THE CELL 'sum', in the pinned program and in every row, IS THE sha256 OF THE DUMP (.gsa) THAT YtdpdlobaabcjjaaProg.lean LOADS. Nothing in Lean hashes anything: it is a label: what it is worth is what the hold of that sum in a sandbox is worth. -/
noncomputable def Try.pinned : Pinned := { name := "ytdpdlobaabcjjaa", sum := "48ede498d2a0e77e7ae77ac834d3b6e435b7291f1f7e221a6fccb0d025cff56f", checked := Try.checked }
namespace Rows
def none {H : Type} : Left H := { results := [], args := [] }

/-- 'wireglasslaw20.ConvTimes': WHATEVER THE INPUT: true; the input reads as it did. -/
def convTimesSpec : ChangeSpec := { name := "convTimes", fn := fun _ => fun
  | [d] => { results := [.lit (.bool true)], args := [d] }
  | _ => none }
def convTimesRow : OpenClaim := { program := "ytdpdlobaabcjjaa", sum := "48ede498d2a0e77e7ae77ac834d3b6e435b7291f1f7e221a6fccb0d025cff56f", func := "wireglass/wireglasslaw20.ConvTimes", spec := "convTimes", unfollowed := true, recurses := true, plainKeys := false, apart := false }
def ConvTimesSaid : Prop := convTimesRow.holds Try.pinned (OpenSpec.ofChange convTimesSpec)

/-- ITS FALSE NEIGHBOUR: 'it returns false'. Refute it at one input. -/
def convTimesWrong : ChangeSpec := { name := "convTimes", fn := fun _ => fun
  | [d] => { results := [.lit (.bool false)], args := [d] }
  | _ => none }
def ConvTimesWrongFalsely : Prop := convTimesRow.holds Try.pinned (OpenSpec.ofChange convTimesWrong)

/-- 'wireglasslaw20.ConvAdds': WHATEVER THE INPUT: true; the input reads as it did. -/
def convAddsSpec : ChangeSpec := { name := "convAdds", fn := fun _ => fun
  | [d1, d2, d3] => { results := [.lit (.bool true)], args := [d1, d2, d3] }
  | _ => none }
def convAddsRow : OpenClaim := { program := "ytdpdlobaabcjjaa", sum := "48ede498d2a0e77e7ae77ac834d3b6e435b7291f1f7e221a6fccb0d025cff56f", func := "wireglass/wireglasslaw20.ConvAdds", spec := "convAdds", unfollowed := true, recurses := true, plainKeys := false, apart := false }
def ConvAddsSaid : Prop := convAddsRow.holds Try.pinned (OpenSpec.ofChange convAddsSpec)

/-- ITS FALSE NEIGHBOUR: 'it returns false'. Refute it at one input. -/
def convAddsWrong : ChangeSpec := { name := "convAdds", fn := fun _ => fun
  | [d1, d2, d3] => { results := [.lit (.bool false)], args := [d1, d2, d3] }
  | _ => none }
def ConvAddsWrongFalsely : Prop := convAddsRow.holds Try.pinned (OpenSpec.ofChange convAddsWrong)

/-- 'wireglasslaw20.ConvParts': WHATEVER THE INPUT: true; the input reads as it did. -/
def convPartsSpec : ChangeSpec := { name := "convParts", fn := fun _ => fun
  | [d1, d2] => { results := [.lit (.bool true)], args := [d1, d2] }
  | _ => none }
def convPartsRow : OpenClaim := { program := "ytdpdlobaabcjjaa", sum := "48ede498d2a0e77e7ae77ac834d3b6e435b7291f1f7e221a6fccb0d025cff56f", func := "wireglass/wireglasslaw20.ConvParts", spec := "convParts", unfollowed := true, recurses := true, plainKeys := false, apart := false }
def ConvPartsSaid : Prop := convPartsRow.holds Try.pinned (OpenSpec.ofChange convPartsSpec)

/-- ITS FALSE NEIGHBOUR: 'it returns false'. Refute it at one input. -/
def convPartsWrong : ChangeSpec := { name := "convParts", fn := fun _ => fun
  | [d1, d2] => { results := [.lit (.bool false)], args := [d1, d2] }
  | _ => none }
def ConvPartsWrongFalsely : Prop := convPartsRow.holds Try.pinned (OpenSpec.ofChange convPartsWrong)

/-- 'wireglasslaw20.ConvOrders': WHATEVER THE INPUT: true; the input reads as it did. -/
def convOrdersSpec : ChangeSpec := { name := "convOrders", fn := fun _ => fun
  | [d1, d2, d3] => { results := [.lit (.bool true)], args := [d1, d2, d3] }
  | _ => none }
def convOrdersRow : OpenClaim := { program := "ytdpdlobaabcjjaa", sum := "48ede498d2a0e77e7ae77ac834d3b6e435b7291f1f7e221a6fccb0d025cff56f", func := "wireglass/wireglasslaw20.ConvOrders", spec := "convOrders", unfollowed := true, recurses := true, plainKeys := false, apart := false }
def ConvOrdersSaid : Prop := convOrdersRow.holds Try.pinned (OpenSpec.ofChange convOrdersSpec)

/-- ITS FALSE NEIGHBOUR: 'it returns false'. Refute it at one input. -/
def convOrdersWrong : ChangeSpec := { name := "convOrders", fn := fun _ => fun
  | [d1, d2, d3] => { results := [.lit (.bool false)], args := [d1, d2, d3] }
  | _ => none }
def ConvOrdersWrongFalsely : Prop := convOrdersRow.holds Try.pinned (OpenSpec.ofChange convOrdersWrong)

/-- 'wireglasslaw20.ConvTurns': WHATEVER THE INPUT: true; the input reads as it did. -/
def convTurnsSpec : ChangeSpec := { name := "convTurns", fn := fun _ => fun
  | [d1, d2] => { results := [.lit (.bool true)], args := [d1, d2] }
  | _ => none }
def convTurnsRow : OpenClaim := { program := "ytdpdlobaabcjjaa", sum := "48ede498d2a0e77e7ae77ac834d3b6e435b7291f1f7e221a6fccb0d025cff56f", func := "wireglass/wireglasslaw20.ConvTurns", spec := "convTurns", unfollowed := true, recurses := true, plainKeys := false, apart := false }
def ConvTurnsSaid : Prop := convTurnsRow.holds Try.pinned (OpenSpec.ofChange convTurnsSpec)

/-- ITS FALSE NEIGHBOUR: 'it returns false'. Refute it at one input. -/
def convTurnsWrong : ChangeSpec := { name := "convTurns", fn := fun _ => fun
  | [d1, d2] => { results := [.lit (.bool false)], args := [d1, d2] }
  | _ => none }
def ConvTurnsWrongFalsely : Prop := convTurnsRow.holds Try.pinned (OpenSpec.ofChange convTurnsWrong)

/-- 'wireglasslaw20.ConvTells': WHATEVER THE INPUT: true; the input reads as it did. -/
def convTellsSpec : ChangeSpec := { name := "convTells", fn := fun _ => fun
  | [d1, d2] => { results := [.lit (.bool true)], args := [d1, d2] }
  | _ => none }
def convTellsRow : OpenClaim := { program := "ytdpdlobaabcjjaa", sum := "48ede498d2a0e77e7ae77ac834d3b6e435b7291f1f7e221a6fccb0d025cff56f", func := "wireglass/wireglasslaw20.ConvTells", spec := "convTells", unfollowed := true, recurses := true, plainKeys := false, apart := false }
def ConvTellsSaid : Prop := convTellsRow.holds Try.pinned (OpenSpec.ofChange convTellsSpec)

/-- ITS FALSE NEIGHBOUR: 'it returns false'. Refute it at one input. -/
def convTellsWrong : ChangeSpec := { name := "convTells", fn := fun _ => fun
  | [d1, d2] => { results := [.lit (.bool false)], args := [d1, d2] }
  | _ => none }
def ConvTellsWrongFalsely : Prop := convTellsRow.holds Try.pinned (OpenSpec.ofChange convTellsWrong)

/-- 'wireglasslaw20.ConvMatches': WHATEVER THE INPUT: true; the input reads as it did. -/
def convMatchesSpec : ChangeSpec := { name := "convMatches", fn := fun _ => fun
  | [d1, d2] => { results := [.lit (.bool true)], args := [d1, d2] }
  | _ => none }
def convMatchesRow : OpenClaim := { program := "ytdpdlobaabcjjaa", sum := "48ede498d2a0e77e7ae77ac834d3b6e435b7291f1f7e221a6fccb0d025cff56f", func := "wireglass/wireglasslaw20.ConvMatches", spec := "convMatches", unfollowed := true, recurses := true, plainKeys := false, apart := false }
def ConvMatchesSaid : Prop := convMatchesRow.holds Try.pinned (OpenSpec.ofChange convMatchesSpec)

/-- ITS FALSE NEIGHBOUR: 'it returns false'. Refute it at one input. -/
def convMatchesWrong : ChangeSpec := { name := "convMatches", fn := fun _ => fun
  | [d1, d2] => { results := [.lit (.bool false)], args := [d1, d2] }
  | _ => none }
def ConvMatchesWrongFalsely : Prop := convMatchesRow.holds Try.pinned (OpenSpec.ofChange convMatchesWrong)

/- THE SECOND FORM. 'bulk': how many values and letters a reading holds, each counted each time it is reached (what is shared counts as often as it is met; a slice's spare places count too). A statement '..UptoSaid' is the law's where the arguments, and the package variables that the reading takes, are together of bulk at most 1048576: NARROWER than '..Said'. Prove '..Said' where nothing that the law and all that it calls make is longer than what came in: it says more and counts as full. Else prove '..UptoSaid'. A law counts once. -/
mutual
def uptoBulk {H : Type} : DataW H → Nat
  | .lit (.string bytes) => bytes.length + 1
  | .lit _ => 1
  | .nil => 1
  | .ptr d => uptoBulk d + 1
  | .slice elems spare => uptoBulkAll elems + uptoBulkAll spare + 1
  | .agg parts => uptoBulkAll parts + 1
  | .iface _ d => uptoBulk d + 1
  | .map entries => uptoBulkEntries entries + 1
  | .held _ => 1
def uptoBulkAll {H : Type} : List (DataW H) → Nat
  | [] => 0
  | d :: r => uptoBulk d + uptoBulkAll r
def uptoBulkEntries {H : Type} : List (Lit × DataW H) → Nat
  | [] => 0
  | x :: r => uptoBulkEntry x + uptoBulkEntries r
def uptoBulkEntry {H : Type} : Lit × DataW H → Nat
  | (.string bytes, d) => bytes.length + uptoBulk d + 1
  | (_, d) => uptoBulk d + 1
 end
def uptoSmall : (H : Type) → List (DataW H) → Bool := fun _ ds => decide (uptoBulkAll ds ≤ 1048576)
def OpenSpec.upto (s : _root_.Go.ChangeSpec) : _root_.Go.OpenSpec := { _root_.Go.OpenSpec.ofChange s with cond := some uptoSmall }

/-- 'wireglasslaw20.ConvTimes', WHERE WHAT IT READS IS OF BULK AT MOST 1048576: true; the input reads as it did. -/
def convTimesUptoRow : OpenClaim := { program := "ytdpdlobaabcjjaa", sum := "48ede498d2a0e77e7ae77ac834d3b6e435b7291f1f7e221a6fccb0d025cff56f", func := "wireglass/wireglasslaw20.ConvTimes", spec := "convTimes", unfollowed := true, recurses := true, plainKeys := false, apart := false, narrowed := true }
def ConvTimesUptoSaid : Prop := convTimesUptoRow.holds Try.pinned (OpenSpec.upto convTimesSpec)

/-- 'wireglasslaw20.ConvAdds', WHERE WHAT IT READS IS OF BULK AT MOST 1048576: true; the input reads as it did. -/
def convAddsUptoRow : OpenClaim := { program := "ytdpdlobaabcjjaa", sum := "48ede498d2a0e77e7ae77ac834d3b6e435b7291f1f7e221a6fccb0d025cff56f", func := "wireglass/wireglasslaw20.ConvAdds", spec := "convAdds", unfollowed := true, recurses := true, plainKeys := false, apart := false, narrowed := true }
def ConvAddsUptoSaid : Prop := convAddsUptoRow.holds Try.pinned (OpenSpec.upto convAddsSpec)

/-- 'wireglasslaw20.ConvParts', WHERE WHAT IT READS IS OF BULK AT MOST 1048576: true; the input reads as it did. -/
def convPartsUptoRow : OpenClaim := { program := "ytdpdlobaabcjjaa", sum := "48ede498d2a0e77e7ae77ac834d3b6e435b7291f1f7e221a6fccb0d025cff56f", func := "wireglass/wireglasslaw20.ConvParts", spec := "convParts", unfollowed := true, recurses := true, plainKeys := false, apart := false, narrowed := true }
def ConvPartsUptoSaid : Prop := convPartsUptoRow.holds Try.pinned (OpenSpec.upto convPartsSpec)

/-- 'wireglasslaw20.ConvOrders', WHERE WHAT IT READS IS OF BULK AT MOST 1048576: true; the input reads as it did. -/
def convOrdersUptoRow : OpenClaim := { program := "ytdpdlobaabcjjaa", sum := "48ede498d2a0e77e7ae77ac834d3b6e435b7291f1f7e221a6fccb0d025cff56f", func := "wireglass/wireglasslaw20.ConvOrders", spec := "convOrders", unfollowed := true, recurses := true, plainKeys := false, apart := false, narrowed := true }
def ConvOrdersUptoSaid : Prop := convOrdersUptoRow.holds Try.pinned (OpenSpec.upto convOrdersSpec)

/-- 'wireglasslaw20.ConvTurns', WHERE WHAT IT READS IS OF BULK AT MOST 1048576: true; the input reads as it did. -/
def convTurnsUptoRow : OpenClaim := { program := "ytdpdlobaabcjjaa", sum := "48ede498d2a0e77e7ae77ac834d3b6e435b7291f1f7e221a6fccb0d025cff56f", func := "wireglass/wireglasslaw20.ConvTurns", spec := "convTurns", unfollowed := true, recurses := true, plainKeys := false, apart := false, narrowed := true }
def ConvTurnsUptoSaid : Prop := convTurnsUptoRow.holds Try.pinned (OpenSpec.upto convTurnsSpec)

/-- 'wireglasslaw20.ConvTells', WHERE WHAT IT READS IS OF BULK AT MOST 1048576: true; the input reads as it did. -/
def convTellsUptoRow : OpenClaim := { program := "ytdpdlobaabcjjaa", sum := "48ede498d2a0e77e7ae77ac834d3b6e435b7291f1f7e221a6fccb0d025cff56f", func := "wireglass/wireglasslaw20.ConvTells", spec := "convTells", unfollowed := true, recurses := true, plainKeys := false, apart := false, narrowed := true }
def ConvTellsUptoSaid : Prop := convTellsUptoRow.holds Try.pinned (OpenSpec.upto convTellsSpec)

/-- 'wireglasslaw20.ConvMatches', WHERE WHAT IT READS IS OF BULK AT MOST 1048576: true; the input reads as it did. -/
def convMatchesUptoRow : OpenClaim := { program := "ytdpdlobaabcjjaa", sum := "48ede498d2a0e77e7ae77ac834d3b6e435b7291f1f7e221a6fccb0d025cff56f", func := "wireglass/wireglasslaw20.ConvMatches", spec := "convMatches", unfollowed := true, recurses := true, plainKeys := false, apart := false, narrowed := true }
def ConvMatchesUptoSaid : Prop := convMatchesUptoRow.holds Try.pinned (OpenSpec.upto convMatchesSpec)

end Rows
end Go.Proofs.Ytdpdlobaabcjjaa
