/-
  DERIVED. GIVEN WITH THE SEED: THE CARDS: each row of YtohfajiimbchhaaDoorRows.lean that lists a variable, with what it lists TIED to the program's text (the seventh form; the later family's looks); each row that meets fmt, with fmt's text TOLD by the authors' own Lean function (tested against real Go, not proved from fmt's source: count such statements apart). THE CARD IS WHAT COUNTS. Prove the row's statement (the work); the ties are given (YtohfajiimbchhaaDoorTie.lean); close each card by the builder's one call (the guide's Derived/Test/ToyasCard.lean, 'card_holds'). Laid BY PROGRAM, IN A SANDBOX (cutbox-door.mjs). By AI agents, Wed Nov 11 2026. No macro, syntax, notation, axiom, sorry.
-/
import Derived.Test.YtohfajiimbchhaaDoorRows
import GoSem.ClaimSeven
namespace Go.Proofs.YtohfajiimbchhaaDoor
namespace Rows

/-- THE TIED CARD OF 'laws.FnExactCacheWords'. -/
def fnExactCacheWordsCard : Claim7 := { stood := { row := fnExactCacheWordsRow, standIns := [], harness := (true, "c68ab859c6597ab306bc94e419f78b7fe742f09f31081f3483e1c996bc37c309"), looks := false }, kinds := [], alts := [], laidByText := true, laidKinds := [.data, .data, .data], laidTests := true, laidLooks := .later }
def FnExactCacheWordsCardSaid : Prop := Claim7.holds Tryd.pinned (.plain (OpenSpec.ofChange fnExactCacheWordsSpec)) fnExactCacheWordsCard

/-- THE SECOND FORM's CARD OF 'laws.FnExactCacheWords'. -/
def fnExactCacheWordsUptoCard : Claim7 := { stood := { row := fnExactCacheWordsUptoRow, standIns := [], harness := (true, "c68ab859c6597ab306bc94e419f78b7fe742f09f31081f3483e1c996bc37c309"), looks := false }, kinds := [], alts := [], laidByText := true, laidKinds := [.data, .data, .data], laidTests := true, laidLooks := .later }
def FnExactCacheWordsUptoCardSaid : Prop := Claim7.holds Tryd.pinned (.plain (OpenSpec.upto fnExactCacheWordsSpec)) fnExactCacheWordsUptoCard
end Rows
end Go.Proofs.YtohfajiimbchhaaDoor
