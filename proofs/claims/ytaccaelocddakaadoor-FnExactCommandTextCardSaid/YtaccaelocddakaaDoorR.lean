/- A part of the proof: no conditions. -/
import Derived.Test.YtaccaelocddakaaDoorQ
namespace Go.Proofs.YtaccaelocddakaaDoor
set_option linter.unusedVariables false
set_option linter.unusedSectionVars false
open Go Go.RowKit

/-! ### What a program's types are, found by their numbers -/
class UnStr (P : Program) (t : Nat) : Prop where
  h : P.underlying t = some .string
class UnBool (P : Program) (t : Nat) : Prop where
  h : P.underlying t = some .bool
class UnInt (P : Program) (t : Nat) (k : outParam IntKind) : Prop where
  h : P.underlying t = some (.int k)
class UnSl (P : Program) (t : Nat) (e : outParam Nat) : Prop where
  h : P.underlying t = some (.slice e)
class ElemOf (P : Program) (t : Nat) (e sz by_ : outParam Nat) : Prop where
  h : elemOf P t = some (e, sz, by_)
class ElOk (P : Program) (e : Nat) (sz by_ : outParam Nat) : Prop where
  h : elOk P e sz by_ = true
class FieldOf (P : Program) (t i : Nat) (off n : outParam Nat) (ag : outParam Bool) : Prop where
  h : fieldOf P t i = some (off, n, ag)
class TyOf (P : Program) (t : Nat) (n : outParam Nat) (ag : outParam Bool) : Prop where
  h : tyOf P t = some (n, ag)
class ZeroOf (P : Program) (t : Nat) (z : outParam (List Value)) : Prop where
  h : zeroOf P t = some z
class FieldsOk (P : Program) (t : Nat) : Prop where
  h : fieldsOk P t = true
end Go.Proofs.YtaccaelocddakaaDoor

namespace Go.Proofs.YtaccaelocddakaaDoor
set_option linter.unusedVariables false
set_option linter.unusedSectionVars false
theorem take_succ {α : Type} {xs ys : List α} {i : Nat} {x y : α} (h : xs.take i = ys.take i) (hx : xs[i]? = some x) (hy : ys[i]? = some y) (e : x = y) : xs.take (i + 1) = ys.take (i + 1) := by
  rw [List.take_add_one, List.take_add_one, h, hx, hy, e]
theorem take_all {α : Type} {xs ys : List α} {i : Nat} (h : xs.take i = ys.take i) (h1 : xs.length ≤ i) (h2 : ys.length ≤ i) : xs = ys := by
  rw [List.take_of_length_le h1, List.take_of_length_le h2] at h; exact h
theorem ne_at {α : Type} {xs ys : List α} {i : Nat} {x y : α} (hx : xs[i]? = some x) (hy : ys[i]? = some y) (e : ¬ x = y) : ¬ xs = ys :=
  fun h => e (by rw [h, hy] at hx; exact (Option.some.inj hx).symm)
end Go.Proofs.YtaccaelocddakaaDoor
