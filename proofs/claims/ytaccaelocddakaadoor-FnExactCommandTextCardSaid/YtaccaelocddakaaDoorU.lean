/- A part of the proof: no conditions. -/
import Derived.Test.YtaccaelocddakaaDoorS
namespace Go.Proofs.YtaccaelocddakaaDoor
open Go Go.RowKit
set_option linter.unusedVariables false
set_option linter.unusedSectionVars false
variable [Tabs]

/-! ### The data of the exact laws -/
structure Seen where
  uid : Int
  flags : Int
  mod : Int
  deriving DecidableEq
structure Cache where
  box : List UInt8
  valid : Int
  mod : Int
  seens : List Seen
  deriving DecidableEq

@[reducible] def kSeen : Kd Seen := Kd.flat 3 (fun x => [.int .i64 x.uid, .int .i64 x.flags, .int .i64 x.mod]) (fun _ => True) (fun _ => rfl) (fun _ => rfl)
@[reducible] def kCache : Kd Cache := Kd.s1 3 0 (fun x => [.string (bs x.box), .int .i64 x.valid, .int .i64 x.mod]) (fun _ => []) kSeen (·.seens) (fun x => x.box.length ≤ lim) (fun _ => ⟨rfl, rfl⟩) (fun _ => ⟨rfl, rfl⟩)

/-- What is left of a measure. -/
def szl (n : Nat) (left : Int) : Int := if left - n < 0 then -1 else left - n
def szCacheL (x : Cache) (left : Int) : Int := if left - x.box.length < 0 then -1 else szl x.seens.length (left - x.box.length)

theorem szl_pos {n : Nat} {l : Int} (h : ¬ szl n l < 0) : n ≤ l ∧ szl n l = l - n := by
  unfold szl at *; split at h <;> omega
end Go.Proofs.YtaccaelocddakaaDoor
