/-
  DERIVED. GIVEN WITH THE SEED: THE CARDS: each row of YtldhiplfiheicaaDoorRows.lean that lists a variable, with what it lists TIED to the program's text (the seventh form; the later family's looks); each row that meets fmt, with fmt's text TOLD by the authors' own Lean function (tested against real Go, not proved from fmt's source: count such statements apart). THE CARD IS WHAT COUNTS. Prove the row's statement (the work); the ties are given (YtldhiplfiheicaaDoorTie.lean); close each card by the builder's one call (the guide's Derived/Test/ToyasCard.lean, 'card_holds'). Laid BY PROGRAM, IN A SANDBOX (cutbox-door.mjs). By AI agents, Wed Nov 11 2026. No macro, syntax, notation, axiom, sorry.
-/
import Derived.Test.YtldhiplfiheicaaDoorRows
import GoSem.ClaimSeven
namespace Go.Proofs.YtldhiplfiheicaaDoor
namespace Rows

/-- THE TIED CARD OF 'wireglasslaw24.GraphShows'. -/
def graphShowsCard : Claim7 := { stood := { row := graphShowsRow, standIns := [], harness := (true, "7bb1149e9c4cc4265108e9197718f5c74834b435e38d1521b253e7209d2b5471"), looks := false }, kinds := [], alts := [], laidByText := true, laidKinds := [.data, .data, .data], laidTests := true, laidLooks := .later }
def GraphShowsCardSaid : Prop := Claim7.holds Tryd.pinned (.plain (OpenSpec.ofChange graphShowsSpec)) graphShowsCard

/-- THE TIED CARD OF 'wireglasslaw24.GraphNil'. -/
def graphNilCard : Claim7 := { stood := { row := graphNilRow, standIns := [], harness := (true, "7bb1149e9c4cc4265108e9197718f5c74834b435e38d1521b253e7209d2b5471"), looks := false }, kinds := [], alts := [], laidByText := true, laidKinds := [.data, .data, .data], laidTests := true, laidLooks := .later }
def GraphNilCardSaid : Prop := Claim7.holds Tryd.pinned (.plain (OpenSpec.ofChange graphNilSpec)) graphNilCard

/-- THE SECOND FORM's CARD OF 'wireglasslaw24.GraphShows'. -/
def graphShowsUptoCard : Claim7 := { stood := { row := graphShowsUptoRow, standIns := [], harness := (true, "7bb1149e9c4cc4265108e9197718f5c74834b435e38d1521b253e7209d2b5471"), looks := false }, kinds := [], alts := [], laidByText := true, laidKinds := [.data, .data, .data], laidTests := true, laidLooks := .later }
def GraphShowsUptoCardSaid : Prop := Claim7.holds Tryd.pinned (.plain (OpenSpec.upto graphShowsSpec)) graphShowsUptoCard

/-- THE SECOND FORM's CARD OF 'wireglasslaw24.GraphNil'. -/
def graphNilUptoCard : Claim7 := { stood := { row := graphNilUptoRow, standIns := [], harness := (true, "7bb1149e9c4cc4265108e9197718f5c74834b435e38d1521b253e7209d2b5471"), looks := false }, kinds := [], alts := [], laidByText := true, laidKinds := [.data, .data, .data], laidTests := true, laidLooks := .later }
def GraphNilUptoCardSaid : Prop := Claim7.holds Tryd.pinned (.plain (OpenSpec.upto graphNilSpec)) graphNilUptoCard
end Rows
end Go.Proofs.YtldhiplfiheicaaDoor
