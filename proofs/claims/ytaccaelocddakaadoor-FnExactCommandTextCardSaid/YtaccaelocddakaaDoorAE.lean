/- A part of the proof: no conditions. -/
import Derived.Test.YtaccaelocddakaaDoorAD
import Derived.Lib.Join
namespace Go.Proofs.YtaccaelocddakaaDoor
open Go Go.RowKit
set_option linter.unusedVariables false
set_option linter.unusedSectionVars false
variable [Tabs]

/-! ### Flags in words -/
def flagNames : List (List UInt8) := [[115, 101, 101, 110], [97, 110, 115, 119, 101, 114, 101, 100], [102, 108, 97, 103, 103, 101, 100], [100, 101, 108, 101, 116, 101, 100], [100, 114, 97, 102, 116]]
/-- The names of those of the first i flags that are there. -/
def flagSel (b i : Nat) : List (List UInt8) := ((List.range i).filter fun j => decide ((b / 2 ^ j) % 2 = 1)).map fun j => flagNames.getD j []
def flagJ (b i : Nat) : List UInt8 := Lib.join (flagSel b i) [32]
def flagsText (b : Int) : List UInt8 := if 0 ≤ b ∧ b ≤ 31 then 40 :: (flagJ b.toNat 5 ++ [41]) else []
theorem flagSel_step (b i : Nat) : flagSel b (i + 1) = if (b / 2 ^ i) % 2 = 1 then flagSel b i ++ [flagNames.getD i []] else flagSel b i := by
  unfold flagSel
  rw [List.range_succ, List.filter_append, List.map_append]
  by_cases h : (b / 2 ^ i) % 2 = 1 <;> simp [h]
theorem flagJ_no {b i : Nat} (h : ¬ (b / 2 ^ i) % 2 = 1) : flagJ b (i + 1) = flagJ b i := by unfold flagJ; rw [flagSel_step, if_neg h]
theorem flagJ_fin : ∀ b : Fin 32, ∀ i : Fin 5, (b.val / 2 ^ i.val) % 2 = 1 → flagJ b.val (i.val + 1) = (if flagJ b.val i.val = [] then [] else flagJ b.val i.val ++ [32]) ++ flagNames.getD i.val [] := by decide +kernel
theorem flagJ_yes {b i : Nat} (hb : b < 32) (hi : i < 5) (h : (b / 2 ^ i) % 2 = 1) : flagJ b (i + 1) = (if flagJ b i = [] then [] else flagJ b i ++ [32]) ++ flagNames.getD i [] := flagJ_fin ⟨b, hb⟩ ⟨i, hi⟩ h
theorem flagJ_len_fin : ∀ b : Fin 32, ∀ i : Fin 6, (flagJ b.val i.val).length ≤ 60 := by decide +kernel
theorem flagJ_len {b i : Nat} (hb : b < 32) (hi : i ≤ 5) : (flagJ b i).length ≤ 60 := flagJ_len_fin ⟨b, hb⟩ ⟨i, by omega⟩
theorem flagNames_len : ∀ i : Fin 5, (flagNames.getD i.val []).length ≤ 8 := by decide
theorem flagsText_len {b : Int} : (flagsText b).length ≤ 62 := by
  unfold flagsText
  split
  · rename_i h
    have := flagJ_len (b := b.toNat) (i := 5) (by omega) (Nat.le_refl _)
    simp only [List.length_cons, List.length_append, List.length_nil]; omega
  · simp
theorem flag_quo {b : Int} {i : Nat} (h : 0 ≤ b ∧ b ≤ 31) (hi : i < 5) : IntKind.i64.wrap (b.tdiv ((2 ^ i : Nat) : Int)) = ((b.toNat / 2 ^ i : Nat) : Int) := by
  have := (by decide +kernel : ∀ b : Fin 32, ∀ i : Fin 5, IntKind.i64.wrap (Int.tdiv (b.val : Int) ((2 ^ i.val : Nat) : Int)) = ((b.val / 2 ^ i.val : Nat) : Int)) ⟨b.toNat, by omega⟩ ⟨i, hi⟩
  simp only at this
  rw [← this, show ((b.toNat : Nat) : Int) = b by omega]
theorem flag_bit {b : Int} {i : Nat} (h : 0 ≤ b ∧ b ≤ 31) (hi : i < 5) :
    decide (IntKind.i64.wrap ((BitVec.ofInt 64 (b.fdiv (2 ^ (min ((i : Int)).toNat 64)))) &&& (BitVec.ofInt 64 1)).toNat = 1) = decide ((b.toNat / 2 ^ i) % 2 = 1) := by
  have := (by decide +kernel : ∀ b : Fin 32, ∀ i : Fin 5, decide (IntKind.i64.wrap ((BitVec.ofInt 64 (Int.fdiv (b.val : Int) (2 ^ (min ((i.val : Int)).toNat 64)))) &&& (BitVec.ofInt 64 1)).toNat = 1) = decide ((b.val / 2 ^ i.val) % 2 = 1)) ⟨b.toNat, by omega⟩ ⟨i, hi⟩
  simp only at this
  rw [show ((b.toNat : Nat) : Int) = b by omega] at this
  exact this
theorem pow_succ2 {i : Nat} (hi : i < 5) : IntKind.i64.wrap (2 * ((2 ^ i : Nat) : Int)) = ((2 ^ (i + 1) : Nat) : Int) :=
  (by decide +kernel : ∀ i : Fin 5, IntKind.i64.wrap (2 * ((2 ^ i.val : Nat) : Int)) = ((2 ^ (i.val + 1) : Nat) : Int)) ⟨i, hi⟩
theorem flagName_get {i : Nat} {y : List UInt8} (h : flagNames[i]? = some y) : flagNames.getD i [] = y ∧ y.length ≤ 8 ∧ i < 5 := by
  have hi : i < 5 := by
    rcases Nat.lt_or_ge i 5 with g | g
    · exact g
    · rw [List.getElem?_eq_none (by simpa [flagNames] using g)] at h; cases h
  have e : flagNames.getD i [] = y := by rw [List.getD_eq_getElem?_getD, h]; rfl
  exact ⟨e, by rw [← e]; exact flagNames_len ⟨i, hi⟩, hi⟩

/-! ### A box, shown -/
def showHead (x : Box) : List UInt8 := x.name ++ [32] ++ decL x.valid ++ [32] ++ decL x.next ++ [32] ++ decL x.mod ++ [10]
def showMail (m : Mail) : List UInt8 := decL m.uid ++ [32] ++ flagsText m.flags ++ [32] ++ decL m.mod ++ [10]
def showUp (x : Box) (i : Nat) : List UInt8 := showHead x ++ ((x.mails.take i).map showMail).flatten
def showBox (x : Box) : List UInt8 := if boxOk x = true then showUp x x.mails.length else []
theorem decL_lenB {n : Int} (h0 : 0 ≤ n) (h1 : n ≤ 100000) : (decL n).length ≤ 10002 := by
  have := digs_len n.natAbs
  unfold decL
  split
  · simp
  · rw [if_neg (by omega)]; omega
theorem showUp_step {x : Box} {i : Nat} {y : Mail} (hy : x.mails[i]? = some y) : showUp x (i + 1) = showUp x i ++ showMail y := by
  unfold showUp; rw [take_snoc hy, List.map_append, List.flatten_append]; simp
theorem boxOk_facts {x : Box} (h : boxOk x = true) : (x.name.length ≤ 8 ∧ (1 ≤ x.valid ∧ x.valid ≤ 9999) ∧ (1 ≤ x.next ∧ x.next ≤ 9999) ∧ (1 ≤ x.mod ∧ x.mod ≤ 100000) ∧ (0 ≤ x.horizon ∧ x.horizon ≤ x.mod)) ∧ x.mails.length ≤ 30 ∧ x.tombs.length ≤ 40 ∧
    (∀ (i : Nat) (y : Mail), x.mails[i]? = some y → (1 ≤ y.uid ∧ y.uid ≤ 9999) ∧ (0 ≤ y.flags ∧ y.flags ≤ 31) ∧ (1 ≤ y.mod ∧ y.mod ≤ 100000) ∧ mailOkAt x i = true) := by
  unfold boxOk at h
  simp only [Bool.and_eq_true] at h
  obtain ⟨⟨⟨h1, h2⟩, h3⟩, h4⟩ := h
  obtain ⟨n1, n2, n3, n4⟩ := numbers_of h2
  have hname : x.name.length ≤ 8 := by
    unfold boxName at h1; simp only [Bool.and_eq_true, decide_eq_true_eq] at h1; exact h1.2.2
  unfold mailsOk at h3; simp only [Bool.and_eq_true, decide_eq_true_eq] at h3
  unfold tombsOk at h4; simp only [Bool.and_eq_true, decide_eq_true_eq] at h4
  refine ⟨⟨hname, n1, n2, n3, n4⟩, by omega, by omega, fun i y hy => ?_⟩
  have hi : i < x.mails.length := by obtain ⟨hi, _⟩ := List.getElem?_eq_some_iff.1 hy; exact hi
  have hm := (List.all_eq_true.1 h3.1) i (by simpa using hi)
  have hm' := hm
  unfold mailOkAt at hm
  rw [hy] at hm
  simp only [Bool.and_eq_true, decide_eq_true_eq] at hm
  exact ⟨by omega, by omega, by omega, hm'⟩
end Go.Proofs.YtaccaelocddakaaDoor
