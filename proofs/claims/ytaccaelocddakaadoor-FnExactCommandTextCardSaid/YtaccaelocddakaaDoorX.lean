/- A part of the proof: no conditions. -/
import Derived.Test.YtaccaelocddakaaDoorV
namespace Go.Proofs.YtaccaelocddakaaDoor
open Go Go.RowKit
set_option linter.unusedVariables false
set_option linter.unusedSectionVars false
variable [Tabs]

/-! ### Words of the plain law: names, numbers -/
theorem byteAt_bs {l : List UInt8} {i : Nat} (h : i < l.length) : byteAt (bs l) i = (l[i].toNat : Int) := by
  rw [byteAt_get (by simpa using h)]; simp
def lower (c : UInt8) : Bool := decide (97 ≤ c.toNat ∧ c.toNat ≤ 122)
def boxName (l : List UInt8) : Bool := l.all lower && decide (1 ≤ l.length ∧ l.length ≤ 8)
theorem bn_step {l : List UInt8} {i : Nat} (h : (l.take i).all lower = true) (hi : i < l.length) (hp : 97 ≤ l[i].toNat ∧ l[i].toNat ≤ 122) : (l.take (i + 1)).all lower = true := by
  rw [take_snoc (List.getElem?_eq_getElem hi), List.all_append, h]; simp [lower, hp]
theorem bn_bad {l : List UInt8} {i : Nat} (hi : i < l.length) (hp : ¬ (97 ≤ l[i].toNat ∧ l[i].toNat ≤ 122)) : boxName l = false := by
  unfold boxName
  have : l.all lower = false := by
    rw [Bool.eq_false_iff]
    intro h
    rw [List.all_eq_true] at h
    have := h l[i] (List.getElem_mem hi)
    unfold lower at this
    exact hp (of_decide_eq_true this)
  rw [this]; rfl
theorem bn_end {l : List UInt8} {i : Nat} (h : (l.take i).all lower = true) (hi : l.length ≤ i) : boxName l = decide (1 ≤ l.length ∧ l.length ≤ 8) := by
  rw [List.take_of_length_le hi] at h; unfold boxName; rw [h]; rfl

theorem pv_ep {α : Type} {k : Kd α} {H : AH} {id j q : Nat} {u : List Value} {B : Blk} {xs : List α} (d : α) (h : ∃ y, xs[q]? = some y ∧ EP k H id j u y B) : EP k H id j u (xs[q]?.getD d) B := by
  obtain ⟨y, hy, he⟩ := h
  rw [hy]; exact he

/-- One row of what is seen, as it should be. -/
def seenOkAt (xs : List Seen) (m : Int) (i : Nat) : Bool :=
  match xs[i]? with
  | none => true
  | some y => decide (1 ≤ y.uid ∧ y.uid ≤ 9999) && (decide (i = 0) || decide ((xs[i - 1]?.getD ⟨0, 0, 0⟩).uid < y.uid)) && decide (0 ≤ y.flags ∧ y.flags ≤ 31) && decide (1 ≤ y.mod ∧ y.mod ≤ m)
def seensOk (xs : List Seen) (m : Int) : Bool := (List.range xs.length).all (seenOkAt xs m)
def cacheOk (x : Cache) : Bool := seensOk x.seens x.mod && (boxName x.box && decide (0 ≤ x.valid ∧ x.valid ≤ 9999) && decide (0 ≤ x.mod ∧ x.mod ≤ 100000) && decide ((x.seens.length : Int) ≤ 30))
theorem so_step {xs : List Seen} {m : Int} {i : Nat} (h : ∀ j, j < i → seenOkAt xs m j = true) (hi : seenOkAt xs m i = true) : ∀ j, j < i + 1 → seenOkAt xs m j = true := by
  intro j hj
  rcases Nat.lt_or_ge j i with g | g
  · exact h j g
  · obtain rfl : j = i := by omega
    exact hi
theorem so_bad {x : Cache} {i : Nat} (hi : i < x.seens.length) (h : seenOkAt x.seens x.mod i = false) : cacheOk x = false := by
  unfold cacheOk seensOk
  have : (List.range x.seens.length).all (seenOkAt x.seens x.mod) = false := by
    rw [Bool.eq_false_iff]
    intro g
    rw [List.all_eq_true] at g
    have := g i (by simpa using hi)
    rw [h] at this; cases this
  rw [this]; rfl
theorem so_end {x : Cache} {i : Nat} (h : ∀ j, j < i → seenOkAt x.seens x.mod j = true) (hi : x.seens.length ≤ i) : cacheOk x = (boxName x.box && decide (0 ≤ x.valid ∧ x.valid ≤ 9999) && decide (0 ≤ x.mod ∧ x.mod ≤ 100000) && decide ((x.seens.length : Int) ≤ 30)) := by
  unfold cacheOk seensOk
  have : (List.range x.seens.length).all (seenOkAt x.seens x.mod) = true := by
    rw [List.all_eq_true]
    intro j hj
    exact h j (by simp at hj; omega)
  rw [this, Bool.true_and]

theorem so_cond {xs : List Seen} {m : Int} {i : Nat} {y : Seen} (hy : xs[i]? = some y) {a : Int} (ha : 0 < i → a = (xs[i - 1]?.getD ⟨0, 0, 0⟩).uid) :
    (bif (bif (bif (!decide (1 ≤ y.uid ∧ y.uid ≤ 9999)) then true else (bif decide ((0 : Int) < i) then decide (y.uid ≤ a) else false)) then true else !decide (0 ≤ y.flags ∧ y.flags ≤ 31)) then true else !decide (1 ≤ y.mod ∧ y.mod ≤ m)) = !seenOkAt xs m i := by
  unfold seenOkAt
  rw [hy]
  simp only
  rcases Nat.eq_zero_or_pos i with h | h
  · subst h
    have : decide ((0 : Int) < ((0 : Nat) : Int)) = false := rfl
    rw [this]
    cases decide (1 ≤ y.uid ∧ y.uid ≤ 9999) <;> cases decide (0 ≤ y.flags ∧ y.flags ≤ 31) <;> cases decide (1 ≤ y.mod ∧ y.mod ≤ m) <;> rfl
  · have h1 : decide ((0 : Int) < (i : Int)) = true := decide_eq_true (by omega)
    have h2 : decide (i = 0) = false := decide_eq_false (by omega)
    rw [h1, h2, ha h]
    generalize (xs[i - 1]?.getD ⟨0, 0, 0⟩).uid = b
    have h3 : decide (y.uid ≤ b) = !decide (b < y.uid) := by
      by_cases hb : b < y.uid
      · rw [decide_eq_true hb, decide_eq_false (by omega)]; rfl
      · rw [decide_eq_false hb, decide_eq_true (by omega)]; rfl
    rw [h3]
    cases decide (1 ≤ y.uid ∧ y.uid ≤ 9999) <;> cases decide (b < y.uid) <;> cases decide (0 ≤ y.flags ∧ y.flags ≤ 31) <;> cases decide (1 ≤ y.mod ∧ y.mod ≤ m) <;> rfl
theorem so_fin (a b c d : Bool) : (bif (bif (bif a then b else false) then c else false) then d else false) = (a && b && c && d) := by cases a <;> cases b <;> cases c <;> cases d <;> rfl

/-- A number's figures. -/
def decL (n : Int) : List UInt8 := if n = 0 then [48] else if n < 0 then 45 :: digs n.natAbs else digs n.natAbs
def cacheWords (x : Cache) : List (List UInt8) :=
  if cacheOk x = true then
    if x.valid = 0 then [[115, 101, 108, 101, 99, 116], x.box] else [[115, 101, 108, 101, 99, 116], x.box, decL x.valid, decL x.mod]
  else []
end Go.Proofs.YtaccaelocddakaaDoor
namespace Go.Proofs.YtaccaelocddakaaDoor
set_option linter.unusedVariables false
set_option linter.unusedSectionVars false
theorem pk_f {g t : Bool} (hh : t = false) (hg : g = true) : (g && (t == false)) = true := by rw [hh, hg]; rfl
theorem pk_t {g t : Bool} (hh : t = true) (hg : g = true) : (g && (t == true)) = true := by rw [hh, hg]; rfl
end Go.Proofs.YtaccaelocddakaaDoor
namespace Go.Proofs.YtaccaelocddakaaDoor
set_option linter.unusedVariables false
set_option linter.unusedSectionVars false
variable [Tabs]
theorem cacheOk_range {x : Cache} (h : cacheOk x = true) : (0 ≤ x.valid ∧ x.valid ≤ 9999) ∧ (0 ≤ x.mod ∧ x.mod ≤ 100000) := by
  unfold cacheOk at h
  simp only [Bool.and_eq_true, decide_eq_true_eq] at h
  exact ⟨h.2.1.1.2, h.2.1.2⟩
theorem cacheWords_bad {x : Cache} (h : cacheOk x = false) : cacheWords x = [] := by unfold cacheWords; rw [h]; rfl
theorem cacheWords_2 {x : Cache} (h : cacheOk x = true) (h0 : x.valid = 0) : cacheWords x = [[115, 101, 108, 101, 99, 116], x.box] := by unfold cacheWords; rw [if_pos h, if_pos h0]
theorem cacheWords_4 {x : Cache} (h : cacheOk x = true) (h0 : ¬ x.valid = 0) : cacheWords x = [[115, 101, 108, 101, 99, 116], x.box, decL x.valid, decL x.mod] := by unfold cacheWords; rw [if_pos h, if_neg h0]
end Go.Proofs.YtaccaelocddakaaDoor
