/-
  DERIVED. GIVEN WITH THE SEED: THE CARDS: each row of YtkebidaikmmlbaaGreatDoorRows.lean that lists a variable, with what it lists TIED to the program's text (the seventh form; the later family's looks); each row that meets fmt, with fmt's text TOLD by the authors' own Lean function (tested against real Go, not proved from fmt's source: count such statements apart). THE CARD IS WHAT COUNTS. Prove the row's statement (the work); the ties are given (YtkebidaikmmlbaaGreatDoorTie.lean); close each card by the builder's one call (the guide's Derived/Test/ToyasCard.lean, 'card_holds'). Laid BY PROGRAM, IN A SANDBOX (cutbox-door.mjs). By AI agents, Wed Nov 11 2026. No macro, syntax, notation, axiom, sorry.
-/
import Derived.Test.YtkebidaikmmlbaaGreatDoorRows
import GoSem.ClaimSeven
namespace Go.Proofs.YtkebidaikmmlbaaGreatDoor
namespace Rows

/-- THE TIED CARD OF 'reparteelaw38.FlowJoin'. -/
def flowJoinCard : Claim7 := { stood := { row := flowJoinRow, standIns := [], harness := (true, "0bbf2f45380cc1fd59f341d0dbbf7a7872b5a23d4fb501325d5cdc22e43b8cd9"), looks := true }, kinds := [], alts := [], laidByText := true, laidKinds := [.data, .data, .widerDeep, .widerDeep, .data, .data, .data, .data, .data, .data, .sentinel, .sentinel, .pinned, .pinned, .pinned], laidTests := true, laidLooks := .later }
def FlowJoinCardSaid : Prop := Claim7.holds Tryz.pinned (.plain (OpenSpec.ofChange flowJoinSpec)) flowJoinCard

/-- THE SECOND FORM's CARD OF 'reparteelaw38.FlowJoin'. -/
def flowJoinUptoCard : Claim7 := { stood := { row := flowJoinUptoRow, standIns := [], harness := (true, "0bbf2f45380cc1fd59f341d0dbbf7a7872b5a23d4fb501325d5cdc22e43b8cd9"), looks := true }, kinds := [], alts := [], laidByText := true, laidKinds := [.data, .data, .widerDeep, .widerDeep, .data, .data, .data, .data, .data, .data, .sentinel, .sentinel, .pinned, .pinned, .pinned], laidTests := true, laidLooks := .later }
def FlowJoinUptoCardSaid : Prop := Claim7.holds Tryz.pinned (.plain (OpenSpec.upto flowJoinSpec)) flowJoinUptoCard
end Rows
end Go.Proofs.YtkebidaikmmlbaaGreatDoor
