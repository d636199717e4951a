/-
  DERIVED. GIVEN WITH THE SEED: THE CARDS: each row of YtgpgjpcebajofaaDoorRows.lean that lists a variable, with what it lists TIED to the program's text (the seventh form; the later family's looks); each row that meets fmt, with fmt's text TOLD by the authors' own Lean function (tested against real Go, not proved from fmt's source: count such statements apart). THE CARD IS WHAT COUNTS. Prove the row's statement (the work); the ties are given (YtgpgjpcebajofaaDoorTie.lean); close each card by the builder's one call (the guide's Derived/Test/ToyasCard.lean, 'card_holds'). Laid BY PROGRAM, IN A SANDBOX (cutbox-door.mjs). By AI agents, Wed Nov 11 2026. No macro, syntax, notation, axiom, sorry.
-/
import Derived.Test.YtgpgjpcebajofaaDoorRows
import GoSem.ClaimSeven
namespace Go.Proofs.YtgpgjpcebajofaaDoor
namespace Rows

/-- THE TIED CARD OF 'swinglelaw16.SetsSolves'. -/
def setsSolvesCard : Claim7 := { stood := { row := setsSolvesRow, standIns := [], harness := (true, "bcd668753badd0617e7680a6f0ed7724dada031711a9048419dcd299c120cbb8"), looks := true }, kinds := [], alts := [], laidByText := true, laidKinds := [.data], laidTests := true, laidLooks := .later }
def SetsSolvesCardSaid : Prop := Claim7.holds Tryd.pinned (.plain (OpenSpec.ofChange setsSolvesSpec)) setsSolvesCard

/-- THE SECOND FORM's CARD OF 'swinglelaw16.SetsSolves'. -/
def setsSolvesUptoCard : Claim7 := { stood := { row := setsSolvesUptoRow, standIns := [], harness := (true, "bcd668753badd0617e7680a6f0ed7724dada031711a9048419dcd299c120cbb8"), looks := true }, kinds := [], alts := [], laidByText := true, laidKinds := [.data], laidTests := true, laidLooks := .later }
def SetsSolvesUptoCardSaid : Prop := Claim7.holds Tryd.pinned (.plain (OpenSpec.upto setsSolvesSpec)) setsSolvesUptoCard
end Rows
end Go.Proofs.YtgpgjpcebajofaaDoor
