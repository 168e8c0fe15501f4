/-
  No cell of these rows narrows 'for every input' (looked for: loops, veiled, ifaces, maps, wideKeys, modest, calm, conditions, laid).
  DERIVED. THE GIVEN ROWS OF THIS SEAT. 3 by the template 'for every input the law returns true; each argument reads behind the call as it read before'; 0 by the template 'total and deterministic' (their statements: YtaccaelocddakaaTotals.lean).
  GIVEN WITH THE SEED: the statements are not yours to turn. If you find one false, say at which input.
  Laid BY PROGRAM, IN A SANDBOX (cutbox-rows.mjs): the forced cells as the released guide's own fill.sh prints them over the translation 0143da9471ec6fa4… (all of the seat's roots in one cut). By AI agents, Wed Nov 11 2026. No macro, syntax, notation, axiom, sorry.
-/
import Derived.Test.YtaccaelocddakaaChecked
import GoSem.Claim
import GoSem.ClaimJoined
import GoSem.ClaimMapViews
import Derived.JoinedTies
import Derived.KernelRfl
namespace Go.Proofs.Ytaccaelocddakaa
/- THE CELL 'sum', in the pinned program and in every row, IS THE sha256 OF THE DUMP (.gsa) THAT YtaccaelocddakaaProg.lean LOADS. Nothing in Lean hashes anything: it is a label: what it is worth is what the hold of that sum in a sandbox is worth. -/
noncomputable def Try.pinned : Pinned := { name := "ytaccaelocddakaa", sum := "0143da9471ec6fa40afd40e236062668e104232cf9f8e69b01904bc4d50e27df", checked := Try.checked }
namespace Rows
def none {H : Type} : Left H := { results := [], args := [] }

/-- 'laws.FnExactCacheTake': WHATEVER THE INPUT: true; the input reads as it did. -/
def fnExactCacheTakeSpec : ChangeSpec := { name := "fnExactCacheTake", fn := fun _ => fun
  | [d1, d2] => { results := [.lit (.bool true)], args := [d1, d2] }
  | _ => none }
def fnExactCacheTakeRow : OpenClaim := { program := "ytaccaelocddakaa", sum := "0143da9471ec6fa40afd40e236062668e104232cf9f8e69b01904bc4d50e27df", func := "loop.example/g00247/laws.FnExactCacheTake", spec := "fnExactCacheTake", inPlace := ["slices.overlaps[loop.example/g00247/impl.Seen]"], unfollowed := true, recurses := true, apart := false }
def FnExactCacheTakeSaid : Prop := fnExactCacheTakeRow.holds Try.pinned (OpenSpec.ofChange fnExactCacheTakeSpec)

/-- ITS FALSE NEIGHBOUR: 'it returns false'. Refute it at one input. -/
def fnExactCacheTakeWrong : ChangeSpec := { name := "fnExactCacheTake", fn := fun _ => fun
  | [d1, d2] => { results := [.lit (.bool false)], args := [d1, d2] }
  | _ => none }
def FnExactCacheTakeWrongFalsely : Prop := fnExactCacheTakeRow.holds Try.pinned (OpenSpec.ofChange fnExactCacheTakeWrong)

/-- 'laws.FnExactTellView': WHATEVER THE INPUT: true; the input reads as it did. -/
def fnExactTellViewSpec : ChangeSpec := { name := "fnExactTellView", fn := fun _ => fun
  | [d1, d2] => { results := [.lit (.bool true)], args := [d1, d2] }
  | _ => none }
def fnExactTellViewRow : OpenClaim := { program := "ytaccaelocddakaa", sum := "0143da9471ec6fa40afd40e236062668e104232cf9f8e69b01904bc4d50e27df", func := "loop.example/g00247/laws.FnExactTellView", spec := "fnExactTellView", inPlace := ["internal/bytealg.IndexByteString"], unfollowed := true, recurses := true, apart := false }
def FnExactTellViewSaid : Prop := fnExactTellViewRow.holds Try.pinned (OpenSpec.ofChange fnExactTellViewSpec)

/-- ITS FALSE NEIGHBOUR: 'it returns false'. Refute it at one input. -/
def fnExactTellViewWrong : ChangeSpec := { name := "fnExactTellView", fn := fun _ => fun
  | [d1, d2] => { results := [.lit (.bool false)], args := [d1, d2] }
  | _ => none }
def FnExactTellViewWrongFalsely : Prop := fnExactTellViewRow.holds Try.pinned (OpenSpec.ofChange fnExactTellViewWrong)

/-- 'laws.FnExactUidSet': WHATEVER THE INPUT: true; the input reads as it did. -/
def fnExactUidSetSpec : ChangeSpec := { name := "fnExactUidSet", fn := fun _ => fun
  | [d1, d2] => { results := [.lit (.bool true)], args := [d1, d2] }
  | _ => none }
def fnExactUidSetRow : OpenClaim := { program := "ytaccaelocddakaa", sum := "0143da9471ec6fa40afd40e236062668e104232cf9f8e69b01904bc4d50e27df", func := "loop.example/g00247/laws.FnExactUidSet", spec := "fnExactUidSet", recurses := true, apart := false }
def FnExactUidSetSaid : Prop := fnExactUidSetRow.holds Try.pinned (OpenSpec.ofChange fnExactUidSetSpec)

/-- ITS FALSE NEIGHBOUR: 'it returns false'. Refute it at one input. -/
def fnExactUidSetWrong : ChangeSpec := { name := "fnExactUidSet", fn := fun _ => fun
  | [d1, d2] => { results := [.lit (.bool false)], args := [d1, d2] }
  | _ => none }
def FnExactUidSetWrongFalsely : Prop := fnExactUidSetRow.holds Try.pinned (OpenSpec.ofChange fnExactUidSetWrong)

/- THE SECOND FORM. 'bulk': how many values and letters a reading holds, each counted each time it is reached (what is shared counts as often as it is met; a slice's spare places count too). A statement '..UptoSaid' is the law's where the arguments, and the package variables that the reading takes, are together of bulk at most 1048576: NARROWER than '..Said'. Prove '..Said' where nothing that the law and all that it calls make is longer than what came in: it says more and counts as full. Else prove '..UptoSaid'. A law counts once. -/
mutual
def uptoBulk {H : Type} : DataW H → Nat
  | .lit (.string bytes) => bytes.length + 1
  | .lit _ => 1
  | .nil => 1
  | .ptr d => uptoBulk d + 1
  | .slice elems spare => uptoBulkAll elems + uptoBulkAll spare + 1
  | .agg parts => uptoBulkAll parts + 1
  | .iface _ d => uptoBulk d + 1
  | .map entries => uptoBulkEntries entries + 1
  | .held _ => 1
def uptoBulkAll {H : Type} : List (DataW H) → Nat
  | [] => 0
  | d :: r => uptoBulk d + uptoBulkAll r
def uptoBulkEntries {H : Type} : List (Lit × DataW H) → Nat
  | [] => 0
  | x :: r => uptoBulkEntry x + uptoBulkEntries r
def uptoBulkEntry {H : Type} : Lit × DataW H → Nat
  | (.string bytes, d) => bytes.length + uptoBulk d + 1
  | (_, d) => uptoBulk d + 1
 end
def uptoSmall : (H : Type) → List (DataW H) → Bool := fun _ ds => decide (uptoBulkAll ds ≤ 1048576)
def OpenSpec.upto (s : _root_.Go.ChangeSpec) : _root_.Go.OpenSpec := { _root_.Go.OpenSpec.ofChange s with cond := some uptoSmall }

/-- 'laws.FnExactCacheTake', WHERE WHAT IT READS IS OF BULK AT MOST 1048576: true; the input reads as it did. -/
def fnExactCacheTakeUptoRow : OpenClaim := { program := "ytaccaelocddakaa", sum := "0143da9471ec6fa40afd40e236062668e104232cf9f8e69b01904bc4d50e27df", func := "loop.example/g00247/laws.FnExactCacheTake", spec := "fnExactCacheTake", inPlace := ["slices.overlaps[loop.example/g00247/impl.Seen]"], unfollowed := true, recurses := true, apart := false, narrowed := true }
def FnExactCacheTakeUptoSaid : Prop := fnExactCacheTakeUptoRow.holds Try.pinned (OpenSpec.upto fnExactCacheTakeSpec)

/-- 'laws.FnExactTellView', WHERE WHAT IT READS IS OF BULK AT MOST 1048576: true; the input reads as it did. -/
def fnExactTellViewUptoRow : OpenClaim := { program := "ytaccaelocddakaa", sum := "0143da9471ec6fa40afd40e236062668e104232cf9f8e69b01904bc4d50e27df", func := "loop.example/g00247/laws.FnExactTellView", spec := "fnExactTellView", inPlace := ["internal/bytealg.IndexByteString"], unfollowed := true, recurses := true, apart := false, narrowed := true }
def FnExactTellViewUptoSaid : Prop := fnExactTellViewUptoRow.holds Try.pinned (OpenSpec.upto fnExactTellViewSpec)

/-- 'laws.FnExactUidSet', WHERE WHAT IT READS IS OF BULK AT MOST 1048576: true; the input reads as it did. -/
def fnExactUidSetUptoRow : OpenClaim := { program := "ytaccaelocddakaa", sum := "0143da9471ec6fa40afd40e236062668e104232cf9f8e69b01904bc4d50e27df", func := "loop.example/g00247/laws.FnExactUidSet", spec := "fnExactUidSet", recurses := true, apart := false, narrowed := true }
def FnExactUidSetUptoSaid : Prop := fnExactUidSetUptoRow.holds Try.pinned (OpenSpec.upto fnExactUidSetSpec)

end Rows
end Go.Proofs.Ytaccaelocddakaa
