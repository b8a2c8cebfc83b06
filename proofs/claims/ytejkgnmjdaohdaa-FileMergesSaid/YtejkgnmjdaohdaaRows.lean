/-
  No cell of these rows narrows 'for every input' (looked for: loops, veiled, ifaces, maps, wideKeys, modest, calm, conditions, laid).
  DERIVED. THE GIVEN ROWS OF THIS SEAT. 11 by the template 'for every input the law returns true; each argument reads behind the call as it read before'; 0 by the template 'total and deterministic' (their statements: YtejkgnmjdaohdaaTotals.lean).
  GIVEN WITH THE SEED: the statements are not yours to turn. If you find one false, say at which input.
  Laid BY PROGRAM, IN A SANDBOX (cutbox-rows.mjs): the forced cells as the released guide's own fill.sh prints them over the translation 0eeaeb85f14cb9a0… (all of the seat's roots in one cut). By AI agents, Wed Nov 11 2026. No macro, syntax, notation, axiom, sorry.
-/
import Derived.Test.YtejkgnmjdaohdaaChecked
import GoSem.Claim
import GoSem.ClaimJoined
import GoSem.ClaimMapViews
import Derived.JoinedTies
import Derived.KernelRfl
namespace Go.Proofs.Ytejkgnmjdaohdaa
/- THE CELL 'sum', in the pinned program and in every row, IS THE sha256 OF THE DUMP (.gsa) THAT YtejkgnmjdaohdaaProg.lean LOADS. Nothing in Lean hashes anything: it is a label: what it is worth is what the hold of that sum in a sandbox is worth. -/
noncomputable def Try.pinned : Pinned := { name := "ytejkgnmjdaohdaa", sum := "0eeaeb85f14cb9a0d8f14d30f69a61265dd56724572e94acb1118cf9b9b2a045", checked := Try.checked }
namespace Rows
def none {H : Type} : Left H := { results := [], args := [] }

/-- 'wireglasslaw03.FileMerges': WHATEVER THE INPUT: true; the input reads as it did. -/
def fileMergesSpec : ChangeSpec := { name := "fileMerges", fn := fun _ => fun
  | [d1, d2] => { results := [.lit (.bool true)], args := [d1, d2] }
  | _ => none }
def fileMergesRow : OpenClaim := { program := "ytejkgnmjdaohdaa", sum := "0eeaeb85f14cb9a0d8f14d30f69a61265dd56724572e94acb1118cf9b9b2a045", func := "wireglass/wireglasslaw03.FileMerges", spec := "fileMerges", unfollowed := true, recurses := true, plainKeys := false, apart := false }
def FileMergesSaid : Prop := fileMergesRow.holds Try.pinned (OpenSpec.ofChange fileMergesSpec)

/-- ITS FALSE NEIGHBOUR: 'it returns false'. Refute it at one input. -/
def fileMergesWrong : ChangeSpec := { name := "fileMerges", fn := fun _ => fun
  | [d1, d2] => { results := [.lit (.bool false)], args := [d1, d2] }
  | _ => none }
def FileMergesWrongFalsely : Prop := fileMergesRow.holds Try.pinned (OpenSpec.ofChange fileMergesWrong)

/-- 'wireglasslaw03.FileUnpacks': WHATEVER THE INPUT: true; the input reads as it did. -/
def fileUnpacksSpec : ChangeSpec := { name := "fileUnpacks", fn := fun _ => fun
  | [d] => { results := [.lit (.bool true)], args := [d] }
  | _ => none }
def fileUnpacksRow : OpenClaim := { program := "ytejkgnmjdaohdaa", sum := "0eeaeb85f14cb9a0d8f14d30f69a61265dd56724572e94acb1118cf9b9b2a045", func := "wireglass/wireglasslaw03.FileUnpacks", spec := "fileUnpacks", unfollowed := true, recurses := true, plainKeys := false, apart := false }
def FileUnpacksSaid : Prop := fileUnpacksRow.holds Try.pinned (OpenSpec.ofChange fileUnpacksSpec)

/-- ITS FALSE NEIGHBOUR: 'it returns false'. Refute it at one input. -/
def fileUnpacksWrong : ChangeSpec := { name := "fileUnpacks", fn := fun _ => fun
  | [d] => { results := [.lit (.bool false)], args := [d] }
  | _ => none }
def FileUnpacksWrongFalsely : Prop := fileUnpacksRow.holds Try.pinned (OpenSpec.ofChange fileUnpacksWrong)

/-- 'wireglasslaw03.FileDoubles': WHATEVER THE INPUT: true; the input reads as it did. -/
def fileDoublesSpec : ChangeSpec := { name := "fileDoubles", fn := fun _ => fun
  | [d1, d2, d3] => { results := [.lit (.bool true)], args := [d1, d2, d3] }
  | _ => none }
def fileDoublesRow : OpenClaim := { program := "ytejkgnmjdaohdaa", sum := "0eeaeb85f14cb9a0d8f14d30f69a61265dd56724572e94acb1118cf9b9b2a045", func := "wireglass/wireglasslaw03.FileDoubles", spec := "fileDoubles", unfollowed := true, recurses := true, plainKeys := false, apart := false }
def FileDoublesSaid : Prop := fileDoublesRow.holds Try.pinned (OpenSpec.ofChange fileDoublesSpec)

/-- ITS FALSE NEIGHBOUR: 'it returns false'. Refute it at one input. -/
def fileDoublesWrong : ChangeSpec := { name := "fileDoubles", fn := fun _ => fun
  | [d1, d2, d3] => { results := [.lit (.bool false)], args := [d1, d2, d3] }
  | _ => none }
def FileDoublesWrongFalsely : Prop := fileDoublesRow.holds Try.pinned (OpenSpec.ofChange fileDoublesWrong)

/-- 'wireglasslaw03.FileSplits': WHATEVER THE INPUT: true; the input reads as it did. -/
def fileSplitsSpec : ChangeSpec := { name := "fileSplits", fn := fun _ => fun
  | [d1, d2, d3] => { results := [.lit (.bool true)], args := [d1, d2, d3] }
  | _ => none }
def fileSplitsRow : OpenClaim := { program := "ytejkgnmjdaohdaa", sum := "0eeaeb85f14cb9a0d8f14d30f69a61265dd56724572e94acb1118cf9b9b2a045", func := "wireglass/wireglasslaw03.FileSplits", spec := "fileSplits", unfollowed := true, recurses := true, plainKeys := false, apart := false }
def FileSplitsSaid : Prop := fileSplitsRow.holds Try.pinned (OpenSpec.ofChange fileSplitsSpec)

/-- ITS FALSE NEIGHBOUR: 'it returns false'. Refute it at one input. -/
def fileSplitsWrong : ChangeSpec := { name := "fileSplits", fn := fun _ => fun
  | [d1, d2, d3] => { results := [.lit (.bool false)], args := [d1, d2, d3] }
  | _ => none }
def FileSplitsWrongFalsely : Prop := fileSplitsRow.holds Try.pinned (OpenSpec.ofChange fileSplitsWrong)

/-- 'wireglasslaw03.FilePicks': WHATEVER THE INPUT: true; the input reads as it did. -/
def filePicksSpec : ChangeSpec := { name := "filePicks", fn := fun _ => fun
  | [d1, d2, d3] => { results := [.lit (.bool true)], args := [d1, d2, d3] }
  | _ => none }
def filePicksRow : OpenClaim := { program := "ytejkgnmjdaohdaa", sum := "0eeaeb85f14cb9a0d8f14d30f69a61265dd56724572e94acb1118cf9b9b2a045", func := "wireglass/wireglasslaw03.FilePicks", spec := "filePicks", unfollowed := true, recurses := true, plainKeys := false, apart := false }
def FilePicksSaid : Prop := filePicksRow.holds Try.pinned (OpenSpec.ofChange filePicksSpec)

/-- ITS FALSE NEIGHBOUR: 'it returns false'. Refute it at one input. -/
def filePicksWrong : ChangeSpec := { name := "filePicks", fn := fun _ => fun
  | [d1, d2, d3] => { results := [.lit (.bool false)], args := [d1, d2, d3] }
  | _ => none }
def FilePicksWrongFalsely : Prop := filePicksRow.holds Try.pinned (OpenSpec.ofChange filePicksWrong)

/-- 'wireglasslaw03.FileJoins': WHATEVER THE INPUT: true; the input reads as it did. -/
def fileJoinsSpec : ChangeSpec := { name := "fileJoins", fn := fun _ => fun
  | [d] => { results := [.lit (.bool true)], args := [d] }
  | _ => none }
def fileJoinsRow : OpenClaim := { program := "ytejkgnmjdaohdaa", sum := "0eeaeb85f14cb9a0d8f14d30f69a61265dd56724572e94acb1118cf9b9b2a045", func := "wireglass/wireglasslaw03.FileJoins", spec := "fileJoins", unfollowed := true, recurses := true, plainKeys := false, apart := false }
def FileJoinsSaid : Prop := fileJoinsRow.holds Try.pinned (OpenSpec.ofChange fileJoinsSpec)

/-- ITS FALSE NEIGHBOUR: 'it returns false'. Refute it at one input. -/
def fileJoinsWrong : ChangeSpec := { name := "fileJoins", fn := fun _ => fun
  | [d] => { results := [.lit (.bool false)], args := [d] }
  | _ => none }
def FileJoinsWrongFalsely : Prop := fileJoinsRow.holds Try.pinned (OpenSpec.ofChange fileJoinsWrong)

/-- 'wireglasslaw03.FileWhole': WHATEVER THE INPUT: true; the input reads as it did. -/
def fileWholeSpec : ChangeSpec := { name := "fileWhole", fn := fun _ => fun
  | [d1, d2, d3] => { results := [.lit (.bool true)], args := [d1, d2, d3] }
  | _ => none }
def fileWholeRow : OpenClaim := { program := "ytejkgnmjdaohdaa", sum := "0eeaeb85f14cb9a0d8f14d30f69a61265dd56724572e94acb1118cf9b9b2a045", func := "wireglass/wireglasslaw03.FileWhole", spec := "fileWhole", unfollowed := true, recurses := true, plainKeys := false, apart := false }
def FileWholeSaid : Prop := fileWholeRow.holds Try.pinned (OpenSpec.ofChange fileWholeSpec)

/-- ITS FALSE NEIGHBOUR: 'it returns false'. Refute it at one input. -/
def fileWholeWrong : ChangeSpec := { name := "fileWhole", fn := fun _ => fun
  | [d1, d2, d3] => { results := [.lit (.bool false)], args := [d1, d2, d3] }
  | _ => none }
def FileWholeWrongFalsely : Prop := fileWholeRow.holds Try.pinned (OpenSpec.ofChange fileWholeWrong)

/-- 'wireglasslaw03.FilePacks': WHATEVER THE INPUT: true; the input reads as it did. -/
def filePacksSpec : ChangeSpec := { name := "filePacks", fn := fun _ => fun
  | [d] => { results := [.lit (.bool true)], args := [d] }
  | _ => none }
def filePacksRow : OpenClaim := { program := "ytejkgnmjdaohdaa", sum := "0eeaeb85f14cb9a0d8f14d30f69a61265dd56724572e94acb1118cf9b9b2a045", func := "wireglass/wireglasslaw03.FilePacks", spec := "filePacks", unfollowed := true, recurses := true, plainKeys := false, apart := false }
def FilePacksSaid : Prop := filePacksRow.holds Try.pinned (OpenSpec.ofChange filePacksSpec)

/-- ITS FALSE NEIGHBOUR: 'it returns false'. Refute it at one input. -/
def filePacksWrong : ChangeSpec := { name := "filePacks", fn := fun _ => fun
  | [d] => { results := [.lit (.bool false)], args := [d] }
  | _ => none }
def FilePacksWrongFalsely : Prop := filePacksRow.holds Try.pinned (OpenSpec.ofChange filePacksWrong)

/-- 'wireglasslaw03.FileRings': WHATEVER THE INPUT: true; the input reads as it did. -/
def fileRingsSpec : ChangeSpec := { name := "fileRings", fn := fun _ => fun
  | [d1, d2, d3] => { results := [.lit (.bool true)], args := [d1, d2, d3] }
  | _ => none }
def fileRingsRow : OpenClaim := { program := "ytejkgnmjdaohdaa", sum := "0eeaeb85f14cb9a0d8f14d30f69a61265dd56724572e94acb1118cf9b9b2a045", func := "wireglass/wireglasslaw03.FileRings", spec := "fileRings", inPlace := ["(*internal/sync.Mutex).Lock", "internal/race.Disable", "sync/atomic.CompareAndSwapInt32", "internal/race.Enable", "internal/race.Acquire", "(*internal/sync.Mutex).lockSlow", "internal/sync.runtime_canSpin", "internal/sync.runtime_doSpin", "internal/sync.throw", "internal/sync.runtime_nanotime", "internal/sync.runtime_SemacquireMutex", "sync/atomic.AddInt32", "(*internal/sync.Mutex).Unlock", "internal/race.ReleaseMerge", "(*internal/sync.Mutex).unlockSlow", "internal/sync.fatal", "internal/sync.runtime_Semrelease"], unfollowed := true, recurses := true, plainKeys := false, apart := false }
def FileRingsSaid : Prop := fileRingsRow.holds Try.pinned (OpenSpec.ofChange fileRingsSpec)

/-- ITS FALSE NEIGHBOUR: 'it returns false'. Refute it at one input. -/
def fileRingsWrong : ChangeSpec := { name := "fileRings", fn := fun _ => fun
  | [d1, d2, d3] => { results := [.lit (.bool false)], args := [d1, d2, d3] }
  | _ => none }
def FileRingsWrongFalsely : Prop := fileRingsRow.holds Try.pinned (OpenSpec.ofChange fileRingsWrong)

/-- 'wireglasslaw03.FileShifts': WHATEVER THE INPUT: true; the input reads as it did. -/
def fileShiftsSpec : ChangeSpec := { name := "fileShifts", fn := fun _ => fun
  | [d1, d2, d3] => { results := [.lit (.bool true)], args := [d1, d2, d3] }
  | _ => none }
def fileShiftsRow : OpenClaim := { program := "ytejkgnmjdaohdaa", sum := "0eeaeb85f14cb9a0d8f14d30f69a61265dd56724572e94acb1118cf9b9b2a045", func := "wireglass/wireglasslaw03.FileShifts", spec := "fileShifts", unfollowed := true, recurses := true, named := ["math/bits.divideError", "math/bits.overflowError"], plainKeys := false, apart := false }
def FileShiftsSaid : Prop := fileShiftsRow.holds Try.pinned (OpenSpec.ofChange fileShiftsSpec)

/-- ITS FALSE NEIGHBOUR: 'it returns false'. Refute it at one input. -/
def fileShiftsWrong : ChangeSpec := { name := "fileShifts", fn := fun _ => fun
  | [d1, d2, d3] => { results := [.lit (.bool false)], args := [d1, d2, d3] }
  | _ => none }
def FileShiftsWrongFalsely : Prop := fileShiftsRow.holds Try.pinned (OpenSpec.ofChange fileShiftsWrong)

/-- 'wireglasslaw03.FileSeeks': WHATEVER THE INPUT: true; the input reads as it did. -/
def fileSeeksSpec : ChangeSpec := { name := "fileSeeks", fn := fun _ => fun
  | [d1, d2, d3] => { results := [.lit (.bool true)], args := [d1, d2, d3] }
  | _ => none }
def fileSeeksRow : OpenClaim := { program := "ytejkgnmjdaohdaa", sum := "0eeaeb85f14cb9a0d8f14d30f69a61265dd56724572e94acb1118cf9b9b2a045", func := "wireglass/wireglasslaw03.FileSeeks", spec := "fileSeeks", unfollowed := true, recurses := true, plainKeys := false, apart := false }
def FileSeeksSaid : Prop := fileSeeksRow.holds Try.pinned (OpenSpec.ofChange fileSeeksSpec)

/-- ITS FALSE NEIGHBOUR: 'it returns false'. Refute it at one input. -/
def fileSeeksWrong : ChangeSpec := { name := "fileSeeks", fn := fun _ => fun
  | [d1, d2, d3] => { results := [.lit (.bool false)], args := [d1, d2, d3] }
  | _ => none }
def FileSeeksWrongFalsely : Prop := fileSeeksRow.holds Try.pinned (OpenSpec.ofChange fileSeeksWrong)

/- THE SECOND FORM. 'bulk': how many values and letters a reading holds, each counted each time it is reached (what is shared counts as often as it is met; a slice's spare places count too). A statement '..UptoSaid' is the law's where the arguments, and the package variables that the reading takes, are together of bulk at most 1048576: NARROWER than '..Said'. Prove '..Said' where nothing that the law and all that it calls make is longer than what came in: it says more and counts as full. Else prove '..UptoSaid'. A law counts once. -/
mutual
def uptoBulk {H : Type} : DataW H → Nat
  | .lit (.string bytes) => bytes.length + 1
  | .lit _ => 1
  | .nil => 1
  | .ptr d => uptoBulk d + 1
  | .slice elems spare => uptoBulkAll elems + uptoBulkAll spare + 1
  | .agg parts => uptoBulkAll parts + 1
  | .iface _ d => uptoBulk d + 1
  | .map entries => uptoBulkEntries entries + 1
  | .held _ => 1
def uptoBulkAll {H : Type} : List (DataW H) → Nat
  | [] => 0
  | d :: r => uptoBulk d + uptoBulkAll r
def uptoBulkEntries {H : Type} : List (Lit × DataW H) → Nat
  | [] => 0
  | x :: r => uptoBulkEntry x + uptoBulkEntries r
def uptoBulkEntry {H : Type} : Lit × DataW H → Nat
  | (.string bytes, d) => bytes.length + uptoBulk d + 1
  | (_, d) => uptoBulk d + 1
 end
def uptoSmall : (H : Type) → List (DataW H) → Bool := fun _ ds => decide (uptoBulkAll ds ≤ 1048576)
def OpenSpec.upto (s : _root_.Go.ChangeSpec) : _root_.Go.OpenSpec := { _root_.Go.OpenSpec.ofChange s with cond := some uptoSmall }

/-- 'wireglasslaw03.FileMerges', WHERE WHAT IT READS IS OF BULK AT MOST 1048576: true; the input reads as it did. -/
def fileMergesUptoRow : OpenClaim := { program := "ytejkgnmjdaohdaa", sum := "0eeaeb85f14cb9a0d8f14d30f69a61265dd56724572e94acb1118cf9b9b2a045", func := "wireglass/wireglasslaw03.FileMerges", spec := "fileMerges", unfollowed := true, recurses := true, plainKeys := false, apart := false, narrowed := true }
def FileMergesUptoSaid : Prop := fileMergesUptoRow.holds Try.pinned (OpenSpec.upto fileMergesSpec)

/-- 'wireglasslaw03.FileUnpacks', WHERE WHAT IT READS IS OF BULK AT MOST 1048576: true; the input reads as it did. -/
def fileUnpacksUptoRow : OpenClaim := { program := "ytejkgnmjdaohdaa", sum := "0eeaeb85f14cb9a0d8f14d30f69a61265dd56724572e94acb1118cf9b9b2a045", func := "wireglass/wireglasslaw03.FileUnpacks", spec := "fileUnpacks", unfollowed := true, recurses := true, plainKeys := false, apart := false, narrowed := true }
def FileUnpacksUptoSaid : Prop := fileUnpacksUptoRow.holds Try.pinned (OpenSpec.upto fileUnpacksSpec)

/-- 'wireglasslaw03.FileDoubles', WHERE WHAT IT READS IS OF BULK AT MOST 1048576: true; the input reads as it did. -/
def fileDoublesUptoRow : OpenClaim := { program := "ytejkgnmjdaohdaa", sum := "0eeaeb85f14cb9a0d8f14d30f69a61265dd56724572e94acb1118cf9b9b2a045", func := "wireglass/wireglasslaw03.FileDoubles", spec := "fileDoubles", unfollowed := true, recurses := true, plainKeys := false, apart := false, narrowed := true }
def FileDoublesUptoSaid : Prop := fileDoublesUptoRow.holds Try.pinned (OpenSpec.upto fileDoublesSpec)

/-- 'wireglasslaw03.FileSplits', WHERE WHAT IT READS IS OF BULK AT MOST 1048576: true; the input reads as it did. -/
def fileSplitsUptoRow : OpenClaim := { program := "ytejkgnmjdaohdaa", sum := "0eeaeb85f14cb9a0d8f14d30f69a61265dd56724572e94acb1118cf9b9b2a045", func := "wireglass/wireglasslaw03.FileSplits", spec := "fileSplits", unfollowed := true, recurses := true, plainKeys := false, apart := false, narrowed := true }
def FileSplitsUptoSaid : Prop := fileSplitsUptoRow.holds Try.pinned (OpenSpec.upto fileSplitsSpec)

/-- 'wireglasslaw03.FilePicks', WHERE WHAT IT READS IS OF BULK AT MOST 1048576: true; the input reads as it did. -/
def filePicksUptoRow : OpenClaim := { program := "ytejkgnmjdaohdaa", sum := "0eeaeb85f14cb9a0d8f14d30f69a61265dd56724572e94acb1118cf9b9b2a045", func := "wireglass/wireglasslaw03.FilePicks", spec := "filePicks", unfollowed := true, recurses := true, plainKeys := false, apart := false, narrowed := true }
def FilePicksUptoSaid : Prop := filePicksUptoRow.holds Try.pinned (OpenSpec.upto filePicksSpec)

/-- 'wireglasslaw03.FileJoins', WHERE WHAT IT READS IS OF BULK AT MOST 1048576: true; the input reads as it did. -/
def fileJoinsUptoRow : OpenClaim := { program := "ytejkgnmjdaohdaa", sum := "0eeaeb85f14cb9a0d8f14d30f69a61265dd56724572e94acb1118cf9b9b2a045", func := "wireglass/wireglasslaw03.FileJoins", spec := "fileJoins", unfollowed := true, recurses := true, plainKeys := false, apart := false, narrowed := true }
def FileJoinsUptoSaid : Prop := fileJoinsUptoRow.holds Try.pinned (OpenSpec.upto fileJoinsSpec)

/-- 'wireglasslaw03.FileWhole', WHERE WHAT IT READS IS OF BULK AT MOST 1048576: true; the input reads as it did. -/
def fileWholeUptoRow : OpenClaim := { program := "ytejkgnmjdaohdaa", sum := "0eeaeb85f14cb9a0d8f14d30f69a61265dd56724572e94acb1118cf9b9b2a045", func := "wireglass/wireglasslaw03.FileWhole", spec := "fileWhole", unfollowed := true, recurses := true, plainKeys := false, apart := false, narrowed := true }
def FileWholeUptoSaid : Prop := fileWholeUptoRow.holds Try.pinned (OpenSpec.upto fileWholeSpec)

/-- 'wireglasslaw03.FilePacks', WHERE WHAT IT READS IS OF BULK AT MOST 1048576: true; the input reads as it did. -/
def filePacksUptoRow : OpenClaim := { program := "ytejkgnmjdaohdaa", sum := "0eeaeb85f14cb9a0d8f14d30f69a61265dd56724572e94acb1118cf9b9b2a045", func := "wireglass/wireglasslaw03.FilePacks", spec := "filePacks", unfollowed := true, recurses := true, plainKeys := false, apart := false, narrowed := true }
def FilePacksUptoSaid : Prop := filePacksUptoRow.holds Try.pinned (OpenSpec.upto filePacksSpec)

/-- 'wireglasslaw03.FileRings', WHERE WHAT IT READS IS OF BULK AT MOST 1048576: true; the input reads as it did. -/
def fileRingsUptoRow : OpenClaim := { program := "ytejkgnmjdaohdaa", sum := "0eeaeb85f14cb9a0d8f14d30f69a61265dd56724572e94acb1118cf9b9b2a045", func := "wireglass/wireglasslaw03.FileRings", spec := "fileRings", inPlace := ["(*internal/sync.Mutex).Lock", "internal/race.Disable", "sync/atomic.CompareAndSwapInt32", "internal/race.Enable", "internal/race.Acquire", "(*internal/sync.Mutex).lockSlow", "internal/sync.runtime_canSpin", "internal/sync.runtime_doSpin", "internal/sync.throw", "internal/sync.runtime_nanotime", "internal/sync.runtime_SemacquireMutex", "sync/atomic.AddInt32", "(*internal/sync.Mutex).Unlock", "internal/race.ReleaseMerge", "(*internal/sync.Mutex).unlockSlow", "internal/sync.fatal", "internal/sync.runtime_Semrelease"], unfollowed := true, recurses := true, plainKeys := false, apart := false, narrowed := true }
def FileRingsUptoSaid : Prop := fileRingsUptoRow.holds Try.pinned (OpenSpec.upto fileRingsSpec)

/-- 'wireglasslaw03.FileShifts', WHERE WHAT IT READS IS OF BULK AT MOST 1048576: true; the input reads as it did. -/
def fileShiftsUptoRow : OpenClaim := { program := "ytejkgnmjdaohdaa", sum := "0eeaeb85f14cb9a0d8f14d30f69a61265dd56724572e94acb1118cf9b9b2a045", func := "wireglass/wireglasslaw03.FileShifts", spec := "fileShifts", unfollowed := true, recurses := true, named := ["math/bits.divideError", "math/bits.overflowError"], plainKeys := false, apart := false, narrowed := true }
def FileShiftsUptoSaid : Prop := fileShiftsUptoRow.holds Try.pinned (OpenSpec.upto fileShiftsSpec)

/-- 'wireglasslaw03.FileSeeks', WHERE WHAT IT READS IS OF BULK AT MOST 1048576: true; the input reads as it did. -/
def fileSeeksUptoRow : OpenClaim := { program := "ytejkgnmjdaohdaa", sum := "0eeaeb85f14cb9a0d8f14d30f69a61265dd56724572e94acb1118cf9b9b2a045", func := "wireglass/wireglasslaw03.FileSeeks", spec := "fileSeeks", unfollowed := true, recurses := true, plainKeys := false, apart := false, narrowed := true }
def FileSeeksUptoSaid : Prop := fileSeeksUptoRow.holds Try.pinned (OpenSpec.upto fileSeeksSpec)

end Rows
end Go.Proofs.Ytejkgnmjdaohdaa
