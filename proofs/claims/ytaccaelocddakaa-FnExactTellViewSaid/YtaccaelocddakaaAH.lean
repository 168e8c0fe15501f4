/- A part of the proof: no conditions. -/
import Derived.Test.YtaccaelocddakaaAG
namespace Go.Proofs.Ytaccaelocddakaa
open Go Go.RowKit
set_option linter.unusedVariables false
set_option linter.unusedSectionVars false
variable [Tabs]

/-- Lines without a set. -/
@[reducible] def kLine0 : Kd Line := Kd.flat 7 (fun x => [.int .i64 x.kind, .int .i64 x.num, .int .i64 x.uid, .int .i64 x.flags, .int .i64 x.mod, .slice none 0 0, .bool x.all]) (fun x => x.set = []) (fun _ => rfl) (fun _ => rfl)

def szViewL (x : View) (l : Int) : Int := if l - x.box.length < 0 then -1 else szl x.uids.length (l - x.box.length)
theorem szView_n {x : View} (h : ¬ szViewL x 1048576 < 0) : x.uids.length ≤ 1048576 ∧ szViewL x 1048576 ≤ 1048576 := by
  unfold szViewL at *
  split at h
  · exact absurd (by decide) h
  · rename_i h1; rw [if_neg h1]; have := szl_pos h; omega

/-! ### Views -/
def viewOkAt (v : View) (i : Nat) : Bool :=
  match v.uids[i]? with
  | none => true
  | some u => decide (1 ≤ u ∧ u ≤ 9999) && (decide (i = 0) || decide (v.uids[i - 1]?.getD 0 < u))
def viewOk (v : View) : Bool := (List.range v.uids.length).all (viewOkAt v) && (boxName v.box && decide (1 ≤ v.valid ∧ v.valid ≤ 9999) && decide ((v.uids.length : Int) ≤ 30) && decide (1 ≤ v.mod ∧ v.mod ≤ 100000))
def Int.z : Int := 0
theorem view_cond {v : View} {i : Nat} {u : Int} (hy : v.uids[i]? = some u) : (bif !decide (1 ≤ u ∧ u ≤ 9999) then true else (bif decide ((0 : Int) < (i : Int)) then decide (u ≤ v.uids[i - 1]?.getD 0) else false)) = !viewOkAt v i := by
  unfold viewOkAt; rw [hy]; simp only
  rw [← dec_pos, ← dec_nle u]
  cases decide (1 ≤ u ∧ u ≤ 9999) <;> cases decide ((0 : Int) < (i : Int)) <;> cases decide (u ≤ v.uids[i - 1]?.getD 0) <;> rfl
theorem view_no {v : View} {i : Nat} {b : Bool} (h : b = !viewOkAt v i) (hb : b = true) : viewOkAt v i = false := by rw [h] at hb; simpa using hb
theorem view_yes {v : View} {i : Nat} {b : Bool} (h : b = !viewOkAt v i) (hb : b = false) : viewOkAt v i = true := by rw [h] at hb; simpa using hb

/-! ### What is told -/
def lnExp (n : Int) : Line := ⟨2, n, 0, 0, 0, [], false⟩
def exStep (b : Box) (p : List Line × List Int) (u : Int) : List Line × List Int := if hasMail b u = true then (p.1, p.2 ++ [u]) else (p.1 ++ [lnExp ((p.2.length : Int) + 1)], p.2)
def exF (b : Box) (us : List Int) : List Line × List Int := us.foldl (exStep b) ([], [])
theorem exF_step {b : Box} {us : List Int} {i : Nat} {u : Int} (h : us[i]? = some u) : exF b (us.take (i + 1)) = exStep b (exF b (us.take i)) u := by
  unfold exF; rw [take_snoc h, List.foldl_append]; rfl
theorem exF_kept (b : Box) (us : List Int) : (exF b us).2 = us.filter (fun u => hasMail b u) := by
  have gen : ∀ (us : List Int) (p : List Line × List Int), (us.foldl (exStep b) p).2 = p.2 ++ us.filter (fun u => hasMail b u) := by
    intro us
    induction us with
    | nil => intro p; simp
    | cons u us ih =>
      intro p
      rw [List.foldl_cons, ih, exStep]
      by_cases h : hasMail b u = true
      · rw [if_pos h, List.filter_cons_of_pos h]; simp
      · rw [if_neg h, List.filter_cons_of_neg h]
  simpa [exF] using gen us ([], [])
theorem exF_lens (b : Box) (us : List Int) : (exF b us).1.length + (exF b us).2.length = us.length ∧ (∀ x ∈ (exF b us).1, x.set = []) := by
  have gen : ∀ (us : List Int) (p : List Line × List Int), (∀ x ∈ p.1, x.set = []) → (us.foldl (exStep b) p).1.length + (us.foldl (exStep b) p).2.length = p.1.length + p.2.length + us.length ∧ ∀ x ∈ (us.foldl (exStep b) p).1, x.set = [] := by
    intro us
    induction us with
    | nil => intro p hp; exact ⟨rfl, hp⟩
    | cons u us ih =>
      intro p hp
      rw [List.foldl_cons]
      have hq : ∀ x ∈ (exStep b p u).1, x.set = [] := by
        unfold exStep; split
        · exact hp
        · intro x hx
          rcases List.mem_append.1 hx with g | g
          · exact hp x g
          · rw [List.mem_singleton.1 g]; rfl
      obtain ⟨a1, a2⟩ := ih _ hq
      refine ⟨?_, a2⟩
      rw [a1]
      unfold exStep; split <;> simp <;> omega
  simpa [exF] using gen us ([], []) (by simp)
def lnExists (n : Int) : Line := ⟨1, n, 0, 0, 0, [], false⟩
def lnFetch (m : Mail) (n : Int) : Line := ⟨3, n, m.uid, m.flags, m.mod, [], false⟩
def lnBye : Line := ⟨9, 0, 0, 0, 0, [], false⟩
def exLine (b : Box) (kept : List Int) : List Line := if kept.length < b.mails.length then [lnExists b.mails.length] else []
def feAt (vm : Int) (ms : List Mail) (j : Nat) : List Line := match ms[j]? with
  | some m => if vm < m.mod then [lnFetch m ((j : Int) + 1)] else []
  | none => []
def feL (vm : Int) (ms : List Mail) (i : Nat) : List Line := ((List.range i).map (feAt vm ms)).flatten
theorem feL_step {vm : Int} {ms : List Mail} {i : Nat} : feL vm ms (i + 1) = feL vm ms i ++ feAt vm ms i := by
  unfold feL; rw [List.range_succ, List.map_append, List.flatten_append]; simp
theorem feL_len {vm : Int} {ms : List Mail} {i : Nat} : (feL vm ms i).length ≤ i := by
  induction i with
  | zero => simp [feL]
  | succ i ih =>
    rw [feL_step, List.length_append]
    have : (feAt vm ms i).length ≤ 1 := by unfold feAt; split <;> (try split) <;> simp
    omega
def viewOf (b : Box) : View := ⟨b.name, b.valid, b.mails.map (·.uid), b.mod⟩
def tellOk (v : View) (b : Box) : Bool := viewOk v && boxOk b && decide (v.box = b.name) && decide (v.valid = b.valid)
def tellView (v : View) (b : Box) : View × List Line :=
  if tellOk v b = true then (viewOf b, (exF b v.uids).1 ++ exLine b (exF b v.uids).2 ++ feL v.mod b.mails b.mails.length) else (⟨[], 0, [], 0⟩, [lnBye])

/-! ### What is kept of a right view, in a right box -/
theorem asc_pw {xs : List Int} (h : ∀ i, 0 < i → i < xs.length → xs[i - 1]?.getD 0 < xs[i]?.getD 0) : xs.Pairwise (· < ·) := by
  induction xs with
  | nil => exact .nil
  | cons a xs ih =>
    have hx : xs.Pairwise (· < ·) := ih fun i h0 hi => by
      have := h (i + 1) (by omega) (by simpa using hi)
      simp only [Nat.add_sub_cancel, List.getElem?_cons_succ] at this
      obtain ⟨j, rfl⟩ : ∃ j, i = j + 1 := ⟨i - 1, by omega⟩
      simpa using this
    refine .cons (fun b hb => ?_) hx
    cases xs with
    | nil => cases hb
    | cons c xs =>
      have hc : a < c := by have := h 1 (by decide) (by simp); simpa using this
      rcases List.mem_cons.1 hb with rfl | hb
      · exact hc
      · have := (List.pairwise_cons.1 hx).1 b hb; omega
theorem asc_sub : ∀ {m l : List Int}, l.Pairwise (· < ·) → m.Pairwise (· < ·) → (∀ x ∈ l, x ∈ m) → l.Sublist m
  | [], l, _, _, h => by
    cases l with
    | nil => exact .slnil
    | cons a l => exact absurd (h a (by simp)) (by simp)
  | b :: m, [], _, _, _ => List.nil_sublist _
  | b :: m, a :: l, hl, hm, h => by
    obtain ⟨l1, l2⟩ := List.pairwise_cons.1 hl
    obtain ⟨m1, m2⟩ := List.pairwise_cons.1 hm
    by_cases e : a = b
    · subst e
      refine .cons_cons _ (asc_sub l2 m2 fun x hx => ?_)
      rcases List.mem_cons.1 (h x (by simp [hx])) with g | g
      · have := l1 x hx; omega
      · exact g
    · have ha : a ∈ m := by
        rcases List.mem_cons.1 (h a (by simp)) with g | g
        · exact absurd g e
        · exact g
      have hab := m1 a ha
      refine .cons _ (asc_sub hl m2 fun x hx => ?_)
      rcases List.mem_cons.1 (h x hx) with g | g
      · subst g
        rcases List.mem_cons.1 hx with q | q
        · exact absurd q.symm e
        · have := l1 x q; omega
      · exact g
theorem viewOk_asc {v : View} (h : viewOk v = true) : v.uids.Pairwise (· < ·) := by
  unfold viewOk at h
  simp only [Bool.and_eq_true] at h
  refine asc_pw fun i h0 hi => ?_
  have := (List.all_eq_true.1 h.1) i (by simpa using hi)
  unfold viewOkAt at this
  rw [List.getElem?_eq_getElem hi] at this
  simp only [Bool.and_eq_true, Bool.or_eq_true, decide_eq_true_eq] at this
  rw [List.getElem?_eq_getElem hi]
  simp only [Option.getD_some]
  rcases this.2 with g | g
  · omega
  · exact g
theorem boxOk_asc {b : Box} (h : boxOk b = true) : (b.mails.map (·.uid)).Pairwise (· < ·) := by
  obtain ⟨_, _, _, hm⟩ := boxOk_facts h
  refine asc_pw fun i h0 hi => ?_
  simp only [List.length_map] at hi
  obtain ⟨_, _, _, ho⟩ := hm i _ (List.getElem?_eq_getElem hi)
  unfold mailOkAt at ho
  rw [List.getElem?_eq_getElem hi] at ho
  simp only [Bool.and_eq_true, Bool.or_eq_true, decide_eq_true_eq] at ho
  rw [List.getElem?_map, List.getElem?_map, List.getElem?_eq_getElem hi, List.getElem?_eq_getElem (show i - 1 < b.mails.length by omega)]
  rw [List.getElem?_eq_getElem (show i - 1 < b.mails.length by omega)] at ho
  simp only [Option.map_some, Option.getD_some] at ho ⊢
  rcases ho.1.1.1.2 with g | g
  · omega
  · exact g
theorem kept_lt {v : View} {b : Box} (hv : viewOk v = true) (hb : boxOk b = true) : (exF b v.uids).2.length < b.mails.length ↔ ¬ (exF b v.uids).2 = b.mails.map (·.uid) := by
  have hs : ((exF b v.uids).2).Sublist (b.mails.map (·.uid)) := by
    rw [exF_kept]
    refine asc_sub ((viewOk_asc hv).filter _) (boxOk_asc hb) fun x hx => ?_
    have hx2 := (List.mem_filter.1 hx).2
    unfold hasMail at hx2
    rw [List.any_eq_true] at hx2
    obtain ⟨m, h1, h2⟩ := hx2
    rw [decide_eq_true_eq] at h2
    rw [← h2]; exact List.mem_map_of_mem h1
  have hl := hs.length_le
  rw [List.length_map] at hl
  constructor
  · intro h e; rw [e, List.length_map] at h; omega
  · intro h
    rcases Nat.lt_or_ge (exF b v.uids).2.length b.mails.length with g | g
    · exact g
    · exact absurd (hs.eq_of_length (by rw [List.length_map]; omega)) h
end Go.Proofs.Ytaccaelocddakaa
namespace Go.Proofs.Ytaccaelocddakaa
set_option linter.unusedVariables false
set_option linter.unusedSectionVars false
variable [Tabs]
theorem tell_b {a b c d : Bool} : (bif (bif (bif !a then true else !b) then true else !c) then true else !d) = !(a && b && c && d) := by cases a <;> cases b <;> cases c <;> cases d <;> rfl
theorem tell_no {v : View} {b : Box} (h : (bif (bif (bif !viewOk v then true else !boxOk b) then true else !decide (v.box = b.name)) then true else !decide (v.valid = b.valid)) = true) : tellView v b = (⟨[], 0, [], 0⟩, [lnBye]) := by
  rw [tell_b] at h
  have hk : tellOk v b = false := by unfold tellOk; cases hh : (viewOk v && boxOk b && decide (v.box = b.name) && decide (v.valid = b.valid)) <;> simp_all
  unfold tellView; rw [hk]; rfl
theorem tell_yes {v : View} {b : Box} (h : (bif (bif (bif !viewOk v then true else !boxOk b) then true else !decide (v.box = b.name)) then true else !decide (v.valid = b.valid)) = false) :
    viewOk v = true ∧ boxOk b = true ∧ tellView v b = (viewOf b, (exF b v.uids).1 ++ exLine b (exF b v.uids).2 ++ feL v.mod b.mails b.mails.length) := by
  rw [tell_b] at h
  have hk : tellOk v b = true := by unfold tellOk; cases hh : (viewOk v && boxOk b && decide (v.box = b.name) && decide (v.valid = b.valid)) <;> simp_all
  refine ⟨?_, ?_, by unfold tellView; rw [if_pos hk]⟩
  · unfold tellOk at hk; simp only [Bool.and_eq_true] at hk; exact hk.1.1.1
  · unfold tellOk at hk; simp only [Bool.and_eq_true] at hk; exact hk.1.1.2
theorem viewOk_len {v : View} (h : viewOk v = true) : v.uids.length ≤ 30 := by
  unfold viewOk at h; simp only [Bool.and_eq_true, decide_eq_true_eq] at h; omega
theorem idx_neg {b : Box} {u : Int} (h : idxP (fun m : Mail => decide (m.uid = u)) b.mails < 0) : hasMail b u = false := by
  rw [← hasMail_idx, decide_eq_false_iff_not]; omega
theorem idx_pos {b : Box} {u : Int} (h : ¬ idxP (fun m : Mail => decide (m.uid = u)) b.mails < 0) : hasMail b u = true := by
  rw [← hasMail_idx, decide_eq_true_eq]; omega
theorem exF_no {b : Box} {us : List Int} {i : Nat} {u : Int} (h : us[i]? = some u) (hm : hasMail b u = false) : exF b (us.take (i + 1)) = ((exF b (us.take i)).1 ++ [lnExp (((exF b (us.take i)).2.length : Int) + 1)], (exF b (us.take i)).2) := by
  rw [exF_step h, exStep, if_neg (by simp [hm])]
theorem exF_yes {b : Box} {us : List Int} {i : Nat} {u : Int} (h : us[i]? = some u) (hm : hasMail b u = true) : exF b (us.take (i + 1)) = ((exF b (us.take i)).1, (exF b (us.take i)).2 ++ [u]) := by
  rw [exF_step h, exStep, if_pos hm]
theorem feAt_yes {vm : Int} {ms : List Mail} {i : Nat} {m : Mail} (h : ms[i]? = some m) (hl : vm < m.mod) : feAt vm ms i = [lnFetch m ((i : Int) + 1)] := by unfold feAt; rw [h]; simp only; rw [if_pos hl]
theorem feAt_no {vm : Int} {ms : List Mail} {i : Nat} {m : Mail} (h : ms[i]? = some m) (hl : ¬ vm < m.mod) : feAt vm ms i = [] := by unfold feAt; rw [h]; simp only; rw [if_neg hl]
end Go.Proofs.Ytaccaelocddakaa
namespace Go.Proofs.Ytaccaelocddakaa
theorem exLine_len {b : Box} {kept : List Int} : (exLine b kept).length ≤ 1 := by unfold exLine; split <;> simp
end Go.Proofs.Ytaccaelocddakaa
namespace Go.Proofs.Ytaccaelocddakaa
theorem mid_get {α : Type} {a xs : List α} {m : Nat} : (a ++ xs.drop m)[a.length]? = xs[m]? := by
  rw [List.getElem?_append_right (Nat.le_refl _), Nat.sub_self, List.getElem?_drop, Nat.add_zero]
theorem mid_drop {α : Type} {a xs : List α} {m : Nat} : (a ++ xs.drop m).drop (a.length + 1) = xs.drop (m + 1) := by
  rw [List.drop_append, List.drop_of_length_le (by omega), List.nil_append, List.drop_drop]
  congr 1; omega
theorem mid_drop1 {α : Type} {xs : List α} {m : Nat} {u : α} (h : xs[m]? = some u) : xs.drop m = u :: xs.drop (m + 1) := by
  obtain ⟨hi, rfl⟩ := List.getElem?_eq_some_iff.1 h
  exact List.drop_eq_getElem_cons hi
end Go.Proofs.Ytaccaelocddakaa
namespace Go.Proofs.Ytaccaelocddakaa
set_option linter.unusedSectionVars false
variable [Tabs]
theorem szBox_nL {x : Box} {l : Int} (hl : l ≤ 1048576) (h : ¬ szBoxL x l < 0) : x.mails.length ≤ 1048576 ∧ x.tombs.length ≤ 1048576 := by
  unfold szBoxL at h
  split at h
  · exact absurd (by decide) h
  · split at h
    · exact absurd (by decide) h
    · rename_i h1 h2
      obtain ⟨a, b, _⟩ := szS_all szMailL_le h2
      have := szl_pos h
      omega
theorem tellView_len (v : View) (b : Box) : (tellView v b).1.uids.length ≤ 30 ∧ (tellView v b).2.length ≤ 100 := by
  unfold tellView
  split
  · rename_i h
    unfold tellOk at h; simp only [Bool.and_eq_true] at h
    have h1 := viewOk_len h.1.1.1
    obtain ⟨_, h2, _, _⟩ := boxOk_facts h.1.1.2
    have h3 := (exF_lens b v.uids).1
    have h4 := exLine_len (b := b) (kept := (exF b v.uids).2)
    have h5 := feL_len (vm := v.mod) (ms := b.mails) (i := b.mails.length)
    simp only [viewOf, List.length_map, List.length_append]
    omega
  · simp
end Go.Proofs.Ytaccaelocddakaa
