/-
  DERIVED. GIVEN WITH THE SEED: THE CARDS: each row of YtghmbmblhdgabaaDoorRows.lean that lists a variable, with what it lists TIED to the program's text (the seventh form; the later family's looks); each row that meets fmt, with fmt's text TOLD by the authors' own Lean function (tested against real Go, not proved from fmt's source: count such statements apart). THE CARD IS WHAT COUNTS. Prove the row's statement (the work); the ties are given (YtghmbmblhdgabaaDoorTie.lean); close each card by the builder's one call (the guide's Derived/Test/ToyasCard.lean, 'card_holds'). Laid BY PROGRAM, IN A SANDBOX (cutbox-door.mjs). By AI agents, Wed Nov 11 2026. No macro, syntax, notation, axiom, sorry.
-/
import Derived.Test.YtghmbmblhdgabaaDoorRows
import GoSem.ClaimSeven
namespace Go.Proofs.YtghmbmblhdgabaaDoor
namespace Rows

/-- THE TIED CARD OF 'chancerylaw28.ProofSums'. -/
def proofSumsCard : Claim7 := { stood := { row := proofSumsRow, standIns := [], harness := (true, "e25fa93c8ae83af63d98bcae5718c077ff717ae9246da7b94ea7375681788880"), looks := false }, kinds := [], alts := [], laidByText := true, laidKinds := [.data], laidTests := true, laidLooks := .later }
def ProofSumsCardSaid : Prop := Claim7.holds Tryd.pinned (.plain (OpenSpec.ofChange proofSumsSpec)) proofSumsCard

/-- THE TIED CARD OF 'chancerylaw28.ProofMakes'. -/
def proofMakesCard : Claim7 := { stood := { row := proofMakesRow, standIns := [], harness := (true, "e25fa93c8ae83af63d98bcae5718c077ff717ae9246da7b94ea7375681788880"), looks := false }, kinds := [], alts := [], laidByText := true, laidKinds := [.data], laidTests := true, laidLooks := .later }
def ProofMakesCardSaid : Prop := Claim7.holds Tryd.pinned (.plain (OpenSpec.ofChange proofMakesSpec)) proofMakesCard

/-- THE TIED CARD OF 'chancerylaw28.ProofHolds'. -/
def proofHoldsCard : Claim7 := { stood := { row := proofHoldsRow, standIns := [], harness := (true, "e25fa93c8ae83af63d98bcae5718c077ff717ae9246da7b94ea7375681788880"), looks := false }, kinds := [], alts := [], laidByText := true, laidKinds := [.data], laidTests := true, laidLooks := .later }
def ProofHoldsCardSaid : Prop := Claim7.holds Tryd.pinned (.plain (OpenSpec.ofChange proofHoldsSpec)) proofHoldsCard

/-- THE SECOND FORM's CARD OF 'chancerylaw28.ProofSums'. -/
def proofSumsUptoCard : Claim7 := { stood := { row := proofSumsUptoRow, standIns := [], harness := (true, "e25fa93c8ae83af63d98bcae5718c077ff717ae9246da7b94ea7375681788880"), looks := false }, kinds := [], alts := [], laidByText := true, laidKinds := [.data], laidTests := true, laidLooks := .later }
def ProofSumsUptoCardSaid : Prop := Claim7.holds Tryd.pinned (.plain (OpenSpec.upto proofSumsSpec)) proofSumsUptoCard

/-- THE SECOND FORM's CARD OF 'chancerylaw28.ProofMakes'. -/
def proofMakesUptoCard : Claim7 := { stood := { row := proofMakesUptoRow, standIns := [], harness := (true, "e25fa93c8ae83af63d98bcae5718c077ff717ae9246da7b94ea7375681788880"), looks := false }, kinds := [], alts := [], laidByText := true, laidKinds := [.data], laidTests := true, laidLooks := .later }
def ProofMakesUptoCardSaid : Prop := Claim7.holds Tryd.pinned (.plain (OpenSpec.upto proofMakesSpec)) proofMakesUptoCard

/-- THE SECOND FORM's CARD OF 'chancerylaw28.ProofHolds'. -/
def proofHoldsUptoCard : Claim7 := { stood := { row := proofHoldsUptoRow, standIns := [], harness := (true, "e25fa93c8ae83af63d98bcae5718c077ff717ae9246da7b94ea7375681788880"), looks := false }, kinds := [], alts := [], laidByText := true, laidKinds := [.data], laidTests := true, laidLooks := .later }
def ProofHoldsUptoCardSaid : Prop := Claim7.holds Tryd.pinned (.plain (OpenSpec.upto proofHoldsSpec)) proofHoldsUptoCard
end Rows
end Go.Proofs.YtghmbmblhdgabaaDoor
