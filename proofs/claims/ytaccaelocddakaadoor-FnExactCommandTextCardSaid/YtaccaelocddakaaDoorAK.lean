/- The words of a command, told as the two programs build them. -/
import Derived.Test.YtaccaelocddakaaDoorAJ
namespace Go.Proofs.YtaccaelocddakaaDoor
open Go Go.RowKit
set_option linter.unusedVariables false
set_option linter.unusedSectionVars false
variable [Tabs]
theorem gD {s : List UInt8} {i : Nat} (h : i < s.length) : s.getD i 0 = s[i] := by rw [List.getD_eq_getElem?_getD, List.getElem?_eq_getElem h]; rfl
theorem condT (a b : Bool) : (bif a then true else b) = (a || b) := by cases a <;> rfl
theorem condF (a b : Bool) : (bif a then b else false) = (a && b) := by cases a <;> rfl
theorem u8_lt (c : UInt8) : (c.toNat : Int) < 256 := by have := UInt8.toNat_lt c; omega
theorem ib_plain (c : UInt8) : decide (Lib.indexByte [34, 92, 40, 41, 123] c < 0) = !(decide (c.toNat = 34) || decide (c.toNat = 92) || decide (c.toNat = 40) || decide (c.toNat = 41) || decide (c.toNat = 123)) := by
  have h : ∀ d : UInt8, (d == c) = decide (c.toNat = d.toNat) := fun d => by
    rw [Bool.eq_iff_iff, beq_iff_eq, decide_eq_true_eq]; exact ⟨fun e => by rw [e], fun e => (UInt8.toNat_inj.1 e).symm⟩
  simp only [Lib.indexByte, h]
  rw [show (34 : UInt8).toNat = 34 from rfl, show (92 : UInt8).toNat = 92 from rfl, show (40 : UInt8).toNat = 40 from rfl, show (41 : UInt8).toNat = 41 from rfl, show (123 : UInt8).toNat = 123 from rfl]
  by_cases h1 : c.toNat = 34 <;> by_cases h2 : c.toNat = 92 <;> by_cases h3 : c.toNat = 40 <;> by_cases h4 : c.toNat = 41 <;> by_cases h5 : c.toNat = 123 <;> simp [h1, h2, h3, h4, h5]
theorem plainB_ib (c : UInt8) : (bif decide ((33 : Int) ≤ (c.toNat : Int) ∧ (c.toNat : Int) ≤ 126) then decide (Lib.indexByte [34, 92, 40, 41, 123] c < 0) else false) = plainB c := by
  rw [condF, ib_plain]; unfold plainB; congr 1; exact decide_eq_decide.2 (by omega)
theorem shownB_i (c : UInt8) : decide ((32 : Int) ≤ (c.toNat : Int) ∧ (c.toNat : Int) ≤ 126) = shownB c := decide_eq_decide.2 (by omega)

theorem ok60 {b : Bool} {q : Int} (h : (!b || decide (q = 60)) = false) : ¬ (b = false ∨ q.toNat = 60) := by
  rw [Bool.or_eq_false_iff] at h
  rintro (e | e)
  · rw [e] at h; cases h.1
  · have := of_decide_eq_false h.2; omega
theorem bad60 {b : Bool} {q : Int} (h : (!b || decide (q = 60)) = true) : b = false ∨ q.toNat = 60 := by
  rw [Bool.or_eq_true] at h
  rcases h with h | h
  · left; cases b <;> simp_all
  · right; have := of_decide_eq_true h; omega

/-! A list -/
theorem lst_step {s : List UInt8} {i : Nat} (h : i < s.length) (n : Nat) (f : Bool) (p : Nat) :
    lst (s.drop i) n f p = if s[i].toNat = 41 then (if n = 0 ∧ f = false then -1 else (p : Int) + 1) else if s[i].toNat = 32 then (if n = 0 then -1 else lst (s.drop (i + 1)) 0 false (p + 1)) else if plainB s[i] = false ∨ n = 60 then -1 else lst (s.drop (i + 1)) (n + 1) false (p + 1) := by
  rw [List.drop_eq_getElem_cons h, lst]
theorem lst_end {s : List UInt8} {i : Nat} (h : s.length ≤ i) (n : Nat) (f : Bool) (p : Nat) : lst (s.drop i) n f p = 0 := by rw [List.drop_of_length_le h]; rfl
theorem list_cond (s : List UInt8) : (bif (bif decide ((s.length : Int) > 1) then decide (byteAt (bs s) 0 = 40) else false) then decide (lst (s.drop 1) 0 true 1 = (s.length : Int)) else false) = listW s := by
  rw [condF, condF]
  cases s with
  | nil => rfl
  | cons c t =>
    have e : byteAt (bs (c :: t)) 0 = (c.toNat : Int) := rfl
    rw [e, listW, List.drop_succ_cons, List.drop_zero, ← lst_lw t 0 true 1 (by omega)]
    have e2 : decide (lst t 0 true 1 = (((c :: t).length : Nat) : Int)) = decide (lst t 0 true 1 = ((1 + t.length : Nat) : Int)) := by rw [List.length_cons, Nat.add_comm]
    rw [e2]
    have e3 : decide ((c.toNat : Int) = 40) = decide (c.toNat = 40) := decide_eq_decide.2 (by omega)
    rw [e3]
    cases t with
    | nil => simp [lst]
    | cons d t => rw [decide_eq_true (show (((c :: d :: t).length : Nat) : Int) > 1 by rw [List.length_cons, List.length_cons]; omega), Bool.true_and]
theorem listW_cut (s : List UInt8) : listW s = (Lib.hasPrefix s [40] && (Lib.hasSuffix (Lib.trimPrefix s [40]) [41] && (decide (Lib.trimSuffix (Lib.trimPrefix s [40]) [41] = []) || (splitB (Lib.trimSuffix (Lib.trimPrefix s [40]) [41])).all plainW))) := by
  cases s with
  | nil => rfl
  | cons c t =>
    show (decide (c.toNat = 40) && lw t 0 true) = _
    have hp : Lib.hasPrefix (c :: t) [40] = decide (c.toNat = 40) := by
      unfold Lib.hasPrefix
      simp only [List.isPrefixOf, Bool.and_true]
      rw [Bool.eq_iff_iff, beq_iff_eq, decide_eq_true_eq]
      exact ⟨fun e => by rw [← e]; rfl, fun e => (UInt8.toNat_inj.1 (e.trans (by rfl))).symm⟩
    rw [hp]
    by_cases hc : c.toNat = 40
    · have ht : Lib.trimPrefix (c :: t) [40] = t := by unfold Lib.trimPrefix; rw [hp, if_pos (decide_eq_true hc)]; rfl
      rw [ht, decide_eq_true hc, Bool.true_and, Bool.true_and]
      cases hs : Lib.hasSuffix t [41] with
      | false =>
        rw [Bool.false_and, Bool.eq_false_iff]
        intro hl
        obtain ⟨r, rfl⟩ := lw_end t 0 true hl
        have : Lib.hasSuffix (r ++ [41]) [41] = true := by unfold Lib.hasSuffix; rw [List.isSuffixOf_iff_suffix]; exact List.suffix_append r [41]
        rw [this] at hs; cases hs
      | true =>
        have hx : [41] <:+ t := by unfold Lib.hasSuffix at hs; exact List.isSuffixOf_iff_suffix.1 hs
        obtain ⟨r, rfl⟩ := hx
        have hr : Lib.trimSuffix (r ++ [41]) [41] = r := by unfold Lib.trimSuffix; rw [hs, if_pos rfl]; simp
        rw [hr, listW_impl r rfl, Bool.true_and]
        by_cases h0 : r = []
        · rw [if_pos h0, decide_eq_true h0]; rfl
        · rw [if_neg h0, decide_eq_false h0]; rfl
    · rw [decide_eq_false hc]; rfl

/-! What stands in marks -/
def qup (s : List UInt8) (i : Nat) : List UInt8 := 34 :: ((s.take i).map escB).flatten
theorem qup0 (s : List UInt8) : qup s 0 = [34] := rfl
theorem qup_step {s : List UInt8} {i : Nat} (h : i < s.length) : qup s (i + 1) = qup s i ++ escB s[i] := by
  unfold qup; rw [take_snoc (List.getElem?_eq_getElem h), List.map_append, List.flatten_append, List.map_singleton, List.flatten_singleton, List.cons_append]
theorem qup_yes {s : List UInt8} {i : Nat} (h : i < s.length) (h2 : s[i].toNat = 34 ∨ s[i].toNat = 92) : qup s (i + 1) = qup s i ++ [92] ++ [s[i]] := by
  rw [qup_step h]; unfold escB; rw [if_pos h2]; simp
theorem qup_no {s : List UInt8} {i : Nat} (h : i < s.length) (h2 : ¬ (s[i].toNat = 34 ∨ s[i].toNat = 92)) : qup s (i + 1) = qup s i ++ [s[i]] := by
  rw [qup_step h]; unfold escB; rw [if_neg h2]
theorem qup_len {s : List UInt8} : ∀ {i : Nat}, i ≤ s.length → (qup s i).length ≤ 1 + 2 * i
  | 0, _ => by simp [qup0]
  | i + 1, h => by
    have := qup_len (s := s) (i := i) (by omega)
    rw [qup_step (by omega), List.length_append]
    have : (escB s[i]).length ≤ 2 := by unfold escB; split <;> simp
    omega
theorem qup_end {s : List UInt8} {i : Nat} (h : i = s.length) : qup s i ++ [34] = quoteW s := by subst h; unfold qup quoteW; rw [List.take_length]; rfl
theorem drop_take1 {s : List UInt8} {i : Nat} (h : i < s.length) : (s.drop i).take 1 = [s[i]] := by rw [List.drop_eq_getElem_cons h]; rfl
theorem wordW_len {s : List UInt8} (h : s.length ≤ 300) : (wordW s).length ≤ 10400 := by
  unfold wordW
  split
  · omega
  · split
    · have := qup_len (s := s) (i := s.length) (Nat.le_refl _)
      have e := qup_end (s := s) rfl
      rw [← e, List.length_append]; simp; omega
    · have := decL_lenB (n := s.length) (by omega) (by omega)
      simp; omega

theorem shB1 {c : UInt8} (h : (decide ((c.toNat : Int) < 32) || decide ((c.toNat : Int) > 126)) = true) : shownB c = false := by
  refine decide_eq_false fun e => ?_
  rw [Bool.or_eq_true] at h
  rcases h with h | h <;> have := of_decide_eq_true h <;> omega
theorem shB0 {c : UInt8} (h : (decide ((c.toNat : Int) < 32) || decide ((c.toNat : Int) > 126)) = false) : shownB c = true := by
  rw [Bool.or_eq_false_iff] at h
  have h1 := of_decide_eq_false h.1
  have h2 := of_decide_eq_false h.2
  exact decide_eq_true (by omega)
theorem qm1 {c : UInt8} (h : (decide ((c.toNat : Int) = 34) || decide ((c.toNat : Int) = 92)) = true) : c.toNat = 34 ∨ c.toNat = 92 := by
  rw [Bool.or_eq_true] at h
  rcases h with h | h <;> have := of_decide_eq_true h <;> omega
theorem qm0 {c : UInt8} (h : (decide ((c.toNat : Int) = 34) || decide ((c.toNat : Int) = 92)) = false) : ¬ (c.toNat = 34 ∨ c.toNat = 92) := by
  rw [Bool.or_eq_false_iff] at h
  have h1 := of_decide_eq_false h.1
  have h2 := of_decide_eq_false h.2
  omega
theorem sl1 {s : List UInt8} {i : Nat} (h : i < s.length) : ((bl (bs s)).drop ((i : Int)).toNat).take ((((i + 1 : Nat)) : Int).toNat - ((i : Int)).toNat) = [s[i]] := by
  rw [bl_bs, Int.toNat_natCast, Int.toNat_natCast, show i + 1 - i = 1 by omega, drop_take1 h]
theorem trimP_len (s p : List UInt8) : (Lib.trimPrefix s p).length ≤ s.length := by unfold Lib.trimPrefix; split <;> simp
theorem trimS_len (s p : List UInt8) : (Lib.trimSuffix s p).length ≤ s.length := by unfold Lib.trimSuffix; split <;> simp <;> omega
theorem cutA {s : List UInt8} (h : (!Lib.hasPrefix s [40] || !Lib.hasSuffix (Lib.trimPrefix s [40]) [41]) = true) : listW s = false := by
  rw [listW_cut]; revert h
  cases Lib.hasPrefix s [40] <;> cases Lib.hasSuffix (Lib.trimPrefix s [40]) [41] <;> simp
theorem cutB {s : List UInt8} (h : (!Lib.hasPrefix s [40] || !Lib.hasSuffix (Lib.trimPrefix s [40]) [41]) = false) : listW s = (decide (Lib.trimSuffix (Lib.trimPrefix s [40]) [41] = []) || (splitB (Lib.trimSuffix (Lib.trimPrefix s [40]) [41])).all plainW) := by
  rw [listW_cut]; revert h
  cases Lib.hasPrefix s [40] <;> cases Lib.hasSuffix (Lib.trimPrefix s [40]) [41] <;> simp
theorem allL_step {α : Type} {p : α → Bool} {xs : List α} {i : Nat} {y : α} (h : (xs.take i).all p = true) (hy : xs[i]? = some y) (hp : p y = true) : (xs.take (i + 1)).all p = true := by
  rw [take_snoc hy, List.all_append, h]; simp [hp]
theorem allL_bad {α : Type} {p : α → Bool} {xs : List α} {i : Nat} {y : α} (hy : xs[i]? = some y) (hp : p y = false) : xs.all p = false := by
  rw [Bool.eq_false_iff]; intro h
  have := List.all_eq_true.1 h y (List.mem_of_getElem? hy)
  rw [hp] at this; cases this
theorem allL_end {α : Type} {p : α → Bool} {xs : List α} {i : Nat} (h : (xs.take i).all p = true) (hi : xs.length ≤ i) : xs.all p = true := by rwa [List.take_of_length_le hi] at h
theorem wordA {s : List UInt8} (h : (plainW s || listW s) = true) : wordW s = s := by unfold wordW; rw [if_pos h]
theorem wordB {s : List UInt8} (h : (plainW s || listW s) = false) : wordW s = if s.all shownB then quoteW s else [123] ++ decL s.length ++ [125, 13, 10] ++ s := by unfold wordW; rw [if_neg (by rw [h]; decide)]

/-! All words -/
def cup (xs : List (List UInt8)) (i : Nat) : List UInt8 := Lib.join ((xs.take i).map wordW) [32]
theorem join_snoc : ∀ (xs : List (List UInt8)) (y sep : List UInt8), xs ≠ [] → Lib.join (xs ++ [y]) sep = Lib.join xs sep ++ sep ++ y
  | [], _, _, h => absurd rfl h
  | x :: r, y, sep, _ => by
    rw [List.cons_append, Lib.join_cons, Lib.join_cons]; unfold Lib.joinTail; simp
theorem cup0 (xs : List (List UInt8)) : cup xs 0 = [] := rfl
theorem cup_first {xs : List (List UInt8)} {i : Nat} {y : List UInt8} (h : xs[i]? = some y) (h0 : i = 0) : cup xs (i + 1) = cup xs i ++ wordW y := by
  subst h0; unfold cup; rw [take_snoc h]; simp [Lib.join_one, Lib.join_nil]
theorem cup_next {xs : List (List UInt8)} {i : Nat} {y : List UInt8} (h : xs[i]? = some y) (h0 : 0 < i) : cup xs (i + 1) = cup xs i ++ [32] ++ wordW y := by
  unfold cup; rw [take_snoc h, List.map_append]
  refine join_snoc _ _ _ ?_
  intro e
  have hl : i < xs.length := (List.getElem?_eq_some_iff.1 h).1
  have e9 := congrArg List.length e
  rw [List.length_map, List.length_take, List.length_nil] at e9; omega
theorem cmd_bad {xs : List (List UInt8)} {i : Nat} {y : List UInt8} (h : xs[i]? = some y) (hy : 300 < y.length) : commandText xs = ([], false) := by
  unfold commandText cmdOk
  have : xs.all (fun w => decide ((w.length : Int) ≤ 300)) = false := by
    rw [Bool.eq_false_iff]; intro ha
    have := List.all_eq_true.1 ha y (List.mem_of_getElem? h)
    simp at this; omega
  rw [this]; simp
theorem cmd_few {xs : List (List UInt8)} (h : ¬ (1 ≤ (xs.length : Int) ∧ (xs.length : Int) ≤ 12)) : commandText xs = ([], false) := by
  unfold commandText cmdOk; rw [decide_eq_false h]; rfl
theorem cmd_end {xs : List (List UInt8)} {i : Nat} (h : 1 ≤ (xs.length : Int) ∧ (xs.length : Int) ≤ 12) (ha : (xs.take i).all (fun w => decide (w.length ≤ 300)) = true) (hi : xs.length ≤ i) :
    commandText xs = if ((cup xs i ++ [13, 10]).length : Int) ≤ 300 then (cup xs i ++ [13, 10], true) else ([], false) := by
  unfold commandText cmdOk
  rw [List.take_of_length_le hi] at ha
  have : xs.all (fun w => decide ((w.length : Int) ≤ 300)) = true := by
    rw [← ha]; congr 1; funext w; exact decide_eq_decide.2 (by omega)
  have e : cup xs i = Lib.join (xs.map wordW) [32] := by unfold cup; rw [List.take_of_length_le hi]
  rw [this, decide_eq_true h, e]
  unfold cmdOut
  by_cases h3 : ((Lib.join (xs.map wordW) [32] ++ [13, 10]).length : Int) ≤ 300
  · rw [if_pos h3, decide_eq_true h3]; rfl
  · rw [if_neg h3, decide_eq_false h3]; rfl
theorem len_step {xs : List (List UInt8)} {i : Nat} {y : List UInt8} (ha : (xs.take i).all (fun w => decide (w.length ≤ 300)) = true) (h : xs[i]? = some y) (hy : y.length ≤ 300) : (xs.take (i + 1)).all (fun w => decide (w.length ≤ 300)) = true := by
  rw [take_snoc h, List.all_append, ha]; simp [hy]
end Go.Proofs.YtaccaelocddakaaDoor
namespace Go.Proofs.YtaccaelocddakaaDoor
set_option linter.unusedVariables false
set_option linter.unusedSectionVars false
variable [Tabs]
theorem nn0 {b : Bool} (h : (!b) = false) : b = true := by cases b <;> simp_all
theorem nn1 {b : Bool} (h : (!b) = true) : b = false := by cases b <;> simp_all
theorem cup_len {xs : List (List UInt8)} {i : Nat} {y : List UInt8} (h : (cup xs i).length ≤ 10401 * i) (hy : xs[i]? = some y) (hw : (wordW y).length ≤ 10400) : (cup xs (i + 1)).length ≤ 10401 * (i + 1) := by
  rcases Nat.eq_zero_or_pos i with e | e
  · rw [cup_first hy e, List.length_append]; omega
  · rw [cup_next hy e, List.length_append, List.length_append, List.length_singleton]; omega
def szStrL (s : List UInt8) (l : Int) : Int := l - s.length
theorem szStrL_le (s : List UInt8) (l : Int) (h : 0 ≤ l) : szStrL s l ≤ l := by unfold szStrL; omega
theorem szStr_n {xs : List (List UInt8)} (h : ¬ szS szStrL xs 1048576 < 0) : xs.length ≤ 1048576 := by
  unfold szS at h
  split at h
  · exact absurd (by decide) h
  · omega
end Go.Proofs.YtaccaelocddakaaDoor
