/-
  DERIVED. GIVEN WITH THE SEED: THE CARDS: each row of YtaccaelocddakaaDoorRows.lean that lists a variable, with what it lists TIED to the program's text (the seventh form; the later family's looks); each row that meets fmt, with fmt's text TOLD by the authors' own Lean function (tested against real Go, not proved from fmt's source: count such statements apart). THE CARD IS WHAT COUNTS. Prove the row's statement (the work); the ties are given (YtaccaelocddakaaDoorTie.lean); close each card by the builder's one call (the guide's Derived/Test/ToyasCard.lean, 'card_holds'). Laid BY PROGRAM, IN A SANDBOX (cutbox-door.mjs). By AI agents, Wed Nov 11 2026. No macro, syntax, notation, axiom, sorry.
-/
import Derived.Test.YtaccaelocddakaaDoorRows
import GoSem.ClaimSeven
namespace Go.Proofs.YtaccaelocddakaaDoor
namespace Rows

/-- THE TIED CARD OF 'laws.FnExactShowBox'. -/
def fnExactShowBoxCard : Claim7 := { stood := { row := fnExactShowBoxRow, standIns := [], harness := (true, "a312cd8f7dffe9a9ac248be54d81f52be8d6c6d04dc78c72cbf32f5e59a45532"), looks := false }, kinds := [], alts := [], laidByText := true, laidKinds := [.data, .data, .data], laidTests := true, laidLooks := .later }
def FnExactShowBoxCardSaid : Prop := Claim7.holds Tryd.pinned (.plain (OpenSpec.ofChange fnExactShowBoxSpec)) fnExactShowBoxCard

/-- THE TIED CARD OF 'laws.FnExactCommandText'. -/
def fnExactCommandTextCard : Claim7 := { stood := { row := fnExactCommandTextRow, standIns := [], harness := (true, "a312cd8f7dffe9a9ac248be54d81f52be8d6c6d04dc78c72cbf32f5e59a45532"), looks := false }, kinds := [], alts := [], laidByText := true, laidKinds := [.data, .data, .data, .data, .pinned], laidTests := true, laidLooks := .later }
def FnExactCommandTextCardSaid : Prop := Claim7.holds Tryd.pinned (.plain (OpenSpec.ofChange fnExactCommandTextSpec)) fnExactCommandTextCard

/-- THE SECOND FORM's CARD OF 'laws.FnExactShowBox'. -/
def fnExactShowBoxUptoCard : Claim7 := { stood := { row := fnExactShowBoxUptoRow, standIns := [], harness := (true, "a312cd8f7dffe9a9ac248be54d81f52be8d6c6d04dc78c72cbf32f5e59a45532"), looks := false }, kinds := [], alts := [], laidByText := true, laidKinds := [.data, .data, .data], laidTests := true, laidLooks := .later }
def FnExactShowBoxUptoCardSaid : Prop := Claim7.holds Tryd.pinned (.plain (OpenSpec.upto fnExactShowBoxSpec)) fnExactShowBoxUptoCard

/-- THE SECOND FORM's CARD OF 'laws.FnExactCommandText'. -/
def fnExactCommandTextUptoCard : Claim7 := { stood := { row := fnExactCommandTextUptoRow, standIns := [], harness := (true, "a312cd8f7dffe9a9ac248be54d81f52be8d6c6d04dc78c72cbf32f5e59a45532"), looks := false }, kinds := [], alts := [], laidByText := true, laidKinds := [.data, .data, .data, .data, .pinned], laidTests := true, laidLooks := .later }
def FnExactCommandTextUptoCardSaid : Prop := Claim7.holds Tryd.pinned (.plain (OpenSpec.upto fnExactCommandTextSpec)) fnExactCommandTextUptoCard
end Rows
end Go.Proofs.YtaccaelocddakaaDoor
