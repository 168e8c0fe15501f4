/- A part of the proof: no conditions. -/
import Derived.Test.YtaccaelocddakaaDoorAG
import Derived.Lib.Join
namespace Go.Proofs.YtaccaelocddakaaDoor
open Go Go.RowKit
set_option linter.unusedVariables false
set_option linter.unusedSectionVars false
variable [Tabs]

/-! ### Words of a command -/
def plainB (c : UInt8) : Bool := decide (33 ≤ c.toNat ∧ c.toNat ≤ 126) && !(decide (c.toNat = 34) || decide (c.toNat = 92) || decide (c.toNat = 40) || decide (c.toNat = 41) || decide (c.toNat = 123))
def plainW (s : List UInt8) : Bool := s.all plainB && decide (1 ≤ s.length ∧ s.length ≤ 60)
def shownB (c : UInt8) : Bool := decide (32 ≤ c.toNat ∧ c.toNat ≤ 126)
def escB (c : UInt8) : List UInt8 := if c.toNat = 34 ∨ c.toNat = 92 then [92, c] else [c]
def quoteW (s : List UInt8) : List UInt8 := 34 :: ((s.map escB).flatten ++ [34])
/-- What is left of a list in parentheses, n bytes of a word of it being there. -/
def lw : List UInt8 → Nat → Bool → Bool
  | [], _, _ => false
  | c :: r, n, f => if c.toNat = 41 then decide (r = []) && (decide (n ≠ 0) || f) else if c.toNat = 32 then decide (n ≠ 0) && lw r 0 false else plainB c && decide (n ≠ 60) && lw r (n + 1) false
def listW (s : List UInt8) : Bool := match s with
  | [] => false
  | c :: t => decide (c.toNat = 40) && lw t 0 true
def wordW (s : List UInt8) : List UInt8 := if plainW s || listW s then s else if s.all shownB then quoteW s else [123] ++ decL s.length ++ [125, 13, 10] ++ s
def cmdOut (ws : List (List UInt8)) : List UInt8 := Lib.join (ws.map wordW) [32] ++ [13, 10]
def cmdOk (ws : List (List UInt8)) : Bool := decide (1 ≤ (ws.length : Int) ∧ (ws.length : Int) ≤ 12) && ws.all (fun w => decide ((w.length : Int) ≤ 300)) && decide (((cmdOut ws).length : Int) ≤ 300)
def commandText (ws : List (List UInt8)) : List UInt8 × Bool := if cmdOk ws = true then (cmdOut ws, true) else ([], false)

/-- The reference's way through a list. -/
def lst : List UInt8 → Nat → Bool → Nat → Int
  | [], _, _, _ => 0
  | c :: r, n, f, p => if c.toNat = 41 then (if n = 0 ∧ f = false then -1 else (p : Int) + 1) else if c.toNat = 32 then (if n = 0 then -1 else lst r 0 false (p + 1)) else if plainB c = false ∨ n = 60 then -1 else lst r (n + 1) false (p + 1)
theorem lst_lw : ∀ (t : List UInt8) (n : Nat) (f : Bool) (p : Nat), 1 ≤ p → decide (lst t n f p = ((p + t.length : Nat) : Int)) = lw t n f
  | [], n, f, p, h => by
    rw [lst, lw]; exact decide_eq_false (by simp; omega)
  | c :: r, n, f, p, h => by
    rw [lst, lw, List.length_cons]
    split
    · split
      · rename_i hn
        rw [decide_eq_false (by omega)]
        obtain ⟨h1, h2⟩ := hn
        subst h1 h2; simp
      · rename_i hn
        rcases r with _ | ⟨d, r⟩
        · simp
          by_cases h0 : n = 0
          · right; cases f with
            | true => rfl
            | false => exact absurd ⟨h0, rfl⟩ hn
          · left; exact h0
        · simp; omega
    · split
      · split
        · rename_i hn
          rw [decide_eq_false (show ¬ n ≠ 0 by omega), decide_eq_false (by omega)]; rfl
        · rename_i hn
          have := lst_lw r 0 false (p + 1) (by omega)
          rw [decide_eq_true (show n ≠ 0 by omega), ← this, show p + 1 + r.length = p + (r.length + 1) by omega]; rfl
      · split
        · rename_i hn
          rw [decide_eq_false (by omega)]
          rcases hn with h1 | h1
          · rw [h1]; rfl
          · rw [decide_eq_false (show ¬ n ≠ 60 by omega)]; simp
        · rename_i hn
          have := lst_lw r (n + 1) false (p + 1) (by omega)
          have h1 : plainB c = true := by cases hh : plainB c <;> simp_all
          have h2 : n ≠ 60 := fun e => hn (.inr e)
          rw [h1, decide_eq_true h2, ← this, show p + 1 + r.length = p + (r.length + 1) by omega]; rfl

/-- All parts between blanks are plain, the first one having n bytes ahead. -/
def allp : List UInt8 → Nat → Bool
  | [], n => decide (1 ≤ n ∧ n ≤ 60)
  | c :: r, n => if c.toNat = 32 then decide (1 ≤ n ∧ n ≤ 60) && allp r 0 else plainB c && decide (n < 60) && allp r (n + 1)
theorem plainB_41 {c : UInt8} (h : c.toNat = 41) : plainB c = false := by unfold plainB; rw [h]; rfl
theorem lw_allp : ∀ (r : List UInt8) (n : Nat) (f : Bool), n ≤ 60 → lw (r ++ [41]) n f = if r = [] then (decide (n ≠ 0) || f) else allp r n
  | [], n, f, h => by simp [lw]
  | c :: r, n, f, h => by
    rw [if_neg (by simp), List.cons_append, lw, allp]
    by_cases h1 : c.toNat = 41
    · rw [if_pos h1, if_neg (by omega), plainB_41 h1]; simp
    · rw [if_neg h1]
      by_cases h2 : c.toNat = 32
      · rw [if_pos h2, if_pos h2, lw_allp r 0 false (by omega)]
        by_cases hr : r = []
        · subst hr; simp [allp]
        · rw [if_neg hr]
          by_cases h0 : n = 0
          · subst h0; simp
          · rw [decide_eq_true h0, decide_eq_true (show 1 ≤ n ∧ n ≤ 60 by omega)]
      · rw [if_neg h2, if_neg h2]
        by_cases h60 : n = 60
        · subst h60; simp
        · rw [lw_allp r (n + 1) false (by omega), decide_eq_true h60, decide_eq_true (show n < 60 by omega)]
          by_cases hr : r = []
          · subst hr
            rw [if_pos rfl, allp, decide_eq_true (show n + 1 ≠ 0 by omega), decide_eq_true (show 1 ≤ n + 1 ∧ n + 1 ≤ 60 by omega)]; simp
          · rw [if_neg hr]
theorem lw_end : ∀ (t : List UInt8) (n : Nat) (f : Bool), lw t n f = true → ∃ r, t = r ++ [41]
  | [], n, f, h => by simp [lw] at h
  | c :: r, n, f, h => by
    rw [lw] at h
    split at h
    · rename_i hc
      simp only [Bool.and_eq_true, decide_eq_true_eq] at h
      exact ⟨[], by rw [h.1]; simp; apply UInt8.toNat_inj.1; simpa using hc⟩
    · split at h
      · simp only [Bool.and_eq_true] at h
        obtain ⟨q, hq⟩ := lw_end r 0 false h.2
        exact ⟨c :: q, by rw [hq]; rfl⟩
      · simp only [Bool.and_eq_true] at h
        obtain ⟨q, hq⟩ := lw_end r (n + 1) false h.2
        exact ⟨c :: q, by rw [hq]; rfl⟩

/-- The parts between blanks. -/
def splitB : List UInt8 → List (List UInt8)
  | [] => [[]]
  | c :: r => if c.toNat = 32 then [] :: splitB r else match splitB r with
    | [] => [[c]]
    | w :: ws => (c :: w) :: ws
theorem splitB_ne (l : List UInt8) : splitB l ≠ [] := by
  induction l with
  | nil => simp [splitB]
  | cons c r ih =>
    rw [splitB]; split
    · simp
    · split <;> simp
/-- The first part may have bytes ahead. -/
theorem splitB_all : ∀ (l pre : List UInt8), pre.all plainB = true → (∀ w ws, splitB l = w :: ws → ((pre ++ w) :: ws).all plainW = allp l pre.length)
  | [], pre, hp, w, ws, h => by
    simp [splitB] at h
    obtain ⟨rfl, rfl⟩ := h
    simp [allp, plainW, hp]
  | c :: r, pre, hp, w, ws, h => by
    rw [splitB] at h
    rw [allp]
    by_cases hc : c.toNat = 32
    · rw [if_pos hc] at h
      rw [if_pos hc]
      cases h
      obtain ⟨w2, ws2, h2⟩ : ∃ w2 ws2, splitB r = w2 :: ws2 := by
        cases hs : splitB r with
        | nil => exact absurd hs (splitB_ne r)
        | cons a b => exact ⟨a, b, rfl⟩
      have := splitB_all r [] rfl w2 ws2 h2
      rw [List.nil_append] at this
      rw [List.append_nil, List.all_cons, h2, this]
      simp [plainW, hp]
    · rw [if_neg hc] at h
      rw [if_neg hc]
      obtain ⟨w2, ws2, h2⟩ : ∃ w2 ws2, splitB r = w2 :: ws2 := by
        cases hs : splitB r with
        | nil => exact absurd hs (splitB_ne r)
        | cons a b => exact ⟨a, b, rfl⟩
      rw [h2] at h
      injection h with e1 e2
      subst e1
      subst e2
      by_cases hb : plainB c = true
      · have hp2 : (pre ++ [c]).all plainB = true := by rw [List.all_append, hp]; simp [hb]
        have := splitB_all r (pre ++ [c]) hp2 w2 ws2 h2
        rw [List.append_assoc, List.singleton_append, List.length_append, List.length_singleton] at this
        rw [this, hb]
        by_cases h60 : pre.length < 60
        · rw [decide_eq_true h60]; rfl
        · rw [decide_eq_false h60]
          -- a part that is too long
          have : allp r (pre.length + 1) = false := by
            have gen : ∀ (r : List UInt8) (n : Nat), 60 < n → allp r n = false := by
              intro r
              induction r with
              | nil => intro n hn; exact decide_eq_false (by omega)
              | cons d r ih =>
                intro n hn
                rw [allp]
                split
                · rw [decide_eq_false (by omega)]; rfl
                · rw [ih (n + 1) (by omega)]; simp
            exact gen r _ (by omega)
          rw [this]; rfl
      · have hb' : plainB c = false := by cases hh : plainB c <;> simp_all
        rw [hb', List.all_cons]
        have : plainW (pre ++ c :: w2) = false := by
          unfold plainW; rw [List.all_append, List.all_cons, hb']; simp
        rw [this]; rfl
theorem listW_impl {t : List UInt8} (r : List UInt8) (h : t = r ++ [41]) : lw t 0 true = if r = [] then true else (splitB r).all plainW := by
  subst h
  rw [lw_allp r 0 true (by omega)]
  by_cases hr : r = []
  · rw [if_pos hr, if_pos hr]; rfl
  · rw [if_neg hr, if_neg hr]
    obtain ⟨w, ws, h2⟩ : ∃ w ws, splitB r = w :: ws := by
      cases hs : splitB r with
      | nil => exact absurd hs (splitB_ne r)
      | cons a b => exact ⟨a, b, rfl⟩
    have := splitB_all r [] rfl w ws h2
    rw [List.nil_append] at this
    rw [h2, this]; rfl
end Go.Proofs.YtaccaelocddakaaDoor
