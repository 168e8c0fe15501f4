/- A part of the proof: no conditions. -/
import Derived.Test.YtaccaelocddakaaDoorAB
namespace Go.Proofs.YtaccaelocddakaaDoor
open Go Go.RowKit
set_option linter.unusedVariables false
set_option linter.unusedSectionVars false
variable [Tabs]

/-! ### Boxes of mail, lines, views -/
structure Range where
  lo : Int
  hi : Int
  deriving DecidableEq
structure Mail where
  uid : Int
  flags : Int
  mod : Int
  text : List UInt8
  deriving DecidableEq
structure Tomb where
  uid : Int
  mod : Int
  deriving DecidableEq
structure Box where
  name : List UInt8
  valid : Int
  next : Int
  mod : Int
  mails : List Mail
  tombs : List Tomb
  horizon : Int
  deriving DecidableEq
structure Line where
  kind : Int
  num : Int
  uid : Int
  flags : Int
  mod : Int
  set : List Range
  all : Bool
  deriving DecidableEq
structure View where
  box : List UInt8
  valid : Int
  uids : List Int
  mod : Int
  deriving DecidableEq

@[reducible] def kInt : Kd Int := Kd.int .i64
@[reducible] def kByte : Kd Int := Kd.int .u8
@[reducible] def kRange : Kd Range := Kd.flat 2 (fun x => [.int .i64 x.lo, .int .i64 x.hi]) (fun _ => True) (fun _ => rfl) (fun _ => rfl)
@[reducible] def kMail : Kd Mail := Kd.flat 4 (fun x => [.int .i64 x.uid, .int .i64 x.flags, .int .i64 x.mod, .string (bs x.text)]) (fun x => x.text.length ≤ lim) (fun _ => rfl) (fun _ => rfl)
@[reducible] def kTomb : Kd Tomb := Kd.flat 2 (fun x => [.int .i64 x.uid, .int .i64 x.mod]) (fun _ => True) (fun _ => rfl) (fun _ => rfl)
@[reducible] def kLine : Kd Line := Kd.s1 5 1 (fun x => [.int .i64 x.kind, .int .i64 x.num, .int .i64 x.uid, .int .i64 x.flags, .int .i64 x.mod]) (fun x => [.bool x.all]) kRange (·.set) (fun _ => True) (fun _ => ⟨rfl, rfl⟩) (fun _ => ⟨rfl, rfl⟩)
@[reducible] def kView : Kd View := Kd.s1 2 1 (fun x => [.string (bs x.box), .int .i64 x.valid]) (fun x => [.int .i64 x.mod]) kInt (·.uids) (fun x => x.box.length ≤ lim) (fun _ => ⟨rfl, rfl⟩) (fun _ => ⟨rfl, rfl⟩)

/-- A record with two slices in it. -/
def Kd.s2 {α β γ : Type} (a b c : Nat) (pre mid post : α → List Value) (k : Kd β) (g : α → List β) (k' : Kd γ) (g' : α → List γ) (wf : α → Prop) (ha : ∀ x, (pre x).length = a ∧ (pre x).all oneCell = true) (hb : ∀ x, (mid x).length = b ∧ (mid x).all oneCell = true) (hc : ∀ x, (post x).length = c ∧ (post x).all oneCell = true) : Kd α :=
  ⟨a + 1 + b + 1 + c, fun H us x => ∃ v w, us = pre x ++ v :: (mid x ++ w :: post x) ∧ k.S H v (g x) ∧ k'.S H w (g' x) ∧ wf x,
   fun ⟨v, w, h, _, _, _⟩ => by rw [h, List.length_append, List.length_cons, List.length_append, List.length_cons, (ha _).1, (hb _).1, (hc _).1]; omega,
   fun p ⟨v, w, h, h1, h2, hw⟩ => ⟨v, w, h, h1.mono p, h2.mono p, hw⟩,
   fun ⟨v, w, h, h1, h2, _⟩ => by rw [h, List.all_append, List.all_cons, List.all_append, List.all_cons, (ha _).2, (hb _).2, (hc _).2, h1.oc, h2.oc]; rfl,
   fun H us x F => ∃ v w F1 F2, us = pre x ++ v :: (mid x ++ w :: post x) ∧ F = F1 ++ F2 ∧ k.WS H v (g x) F1 ∧ k'.WS H w (g' x) F2 ∧ wf x,
   fun ⟨v, w, F1, F2, h, _, h1, h2, hw⟩ => ⟨v, w, h, h1.S, h2.S, hw⟩,
   fun p ⟨v, w, F1, F2, h, e, h1, h2, hw⟩ => ⟨v, w, F1, F2, h, e, h1.loc (fun i hi => p i (by rw [e]; exact List.mem_append_left _ hi)), h2.loc (fun i hi => p i (by rw [e]; exact List.mem_append_right _ hi)), hw⟩,
   fun ⟨v, w, F1, F2, h, e, h1, h2, _⟩ i hi => by rw [e] at hi; exact (List.mem_append.1 hi).elim (h1.lt i) (h2.lt i)⟩
@[reducible] def kBox : Kd Box := Kd.s2 4 0 1 (fun x => [.string (bs x.name), .int .i64 x.valid, .int .i64 x.next, .int .i64 x.mod]) (fun _ => []) (fun x => [.int .i64 x.horizon]) kMail (·.mails) kTomb (·.tombs) (fun x => x.name.length ≤ lim) (fun _ => ⟨rfl, rfl⟩) (fun _ => ⟨rfl, rfl⟩) (fun _ => ⟨rfl, rfl⟩)

/-! ### Measures -/
def szs {α : Type} (f : α → Int → Int) : List α → Int → Int
  | [], l => l
  | x :: xs, l => if f x l < 0 then -1 else szs f xs (f x l)
def szS {α : Type} (f : α → Int → Int) (xs : List α) (l : Int) : Int := if l - xs.length < 0 then -1 else szs f xs (l - xs.length)
theorem szs_step {α : Type} {f : α → Int → Int} {xs : List α} {i : Nat} {y : α} {l : Int} (hy : xs[i]? = some y) (h : ¬ f y l < 0) : szs f (xs.drop i) l = szs f (xs.drop (i + 1)) (f y l) := by
  obtain ⟨hi, rfl⟩ := List.getElem?_eq_some_iff.1 hy
  rw [List.drop_eq_getElem_cons hi, szs, if_neg h]
theorem szs_bad {α : Type} {f : α → Int → Int} {xs : List α} {i : Nat} {y : α} {l : Int} (hy : xs[i]? = some y) (h : f y l < 0) : szs f (xs.drop i) l = -1 := by
  obtain ⟨hi, rfl⟩ := List.getElem?_eq_some_iff.1 hy
  rw [List.drop_eq_getElem_cons hi, szs, if_pos h]
theorem szs_end {α : Type} {f : α → Int → Int} {xs : List α} {i : Nat} {l : Int} (h : xs.length ≤ i) : szs f (xs.drop i) l = l := by
  rw [List.drop_of_length_le h]; rfl
theorem szs_all {α : Type} {f : α → Int → Int} (hf : ∀ x l, 0 ≤ l → f x l ≤ l) : ∀ {xs : List α} {l : Int}, 0 ≤ l → ¬ szs f xs l < 0 → szs f xs l ≤ l ∧ ∀ x ∈ xs, ∃ l', (0 ≤ l' ∧ l' ≤ l) ∧ ¬ f x l' < 0
  | [], l, h0, h => ⟨Int.le_refl _, by simp⟩
  | x :: xs, l, h0, h => by
    rw [szs] at h ⊢
    split at h
    · exact absurd (by decide) h
    · rename_i hn
      rw [if_neg hn]
      obtain ⟨a, b⟩ := szs_all hf (by omega) h
      have := hf x l h0
      refine ⟨by omega, fun y hy => ?_⟩
      rcases List.mem_cons.1 hy with rfl | hy
      · exact ⟨l, ⟨h0, Int.le_refl _⟩, hn⟩
      · obtain ⟨l', b1, b2⟩ := b y hy; exact ⟨l', by omega, b2⟩
theorem szS_all {α : Type} {f : α → Int → Int} (hf : ∀ x l, 0 ≤ l → f x l ≤ l) {xs : List α} {l : Int} (h : ¬ szS f xs l < 0) : (xs.length : Int) ≤ l ∧ szS f xs l ≤ l ∧ ∀ x ∈ xs, ∃ l', (0 ≤ l' ∧ l' ≤ l) ∧ ¬ f x l' < 0 := by
  unfold szS at h ⊢
  split at h
  · exact absurd (by decide) h
  · rename_i hn
    rw [if_neg hn]
    obtain ⟨a, b⟩ := szs_all hf (by omega) h
    refine ⟨by omega, by omega, fun x hx => ?_⟩
    obtain ⟨l', b1, b2⟩ := b x hx
    exact ⟨l', by omega, b2⟩
theorem szl_le {n : Nat} {l : Int} (h : 0 ≤ l) : szl n l ≤ l := by unfold szl; split <;> omega

/-! ### When a box is right -/
def mailOk (t : List UInt8) : Bool := t.all (fun c => decide (c.toNat ≠ 0)) && decide (1 ≤ t.length ∧ t.length ≤ 200)
def Mail.z : Mail := ⟨0, 0, 0, []⟩
def Tomb.z : Tomb := ⟨0, 0⟩
def mailOkAt (x : Box) (i : Nat) : Bool :=
  match x.mails[i]? with
  | none => true
  | some y => decide (1 ≤ y.uid ∧ y.uid ≤ x.next - 1) && (decide (i = 0) || decide ((x.mails[i - 1]?.getD Mail.z).uid < y.uid)) && decide (0 ≤ y.flags ∧ y.flags ≤ 31) && decide (1 ≤ y.mod ∧ y.mod ≤ x.mod) && mailOk y.text
def hasMail (x : Box) (uid : Int) : Bool := x.mails.any fun m => decide (m.uid = uid)
def tombOkAt (x : Box) (i : Nat) : Bool :=
  match x.tombs[i]? with
  | none => true
  | some t => decide (1 ≤ t.uid ∧ t.uid ≤ x.next - 1) && decide (x.horizon < t.mod ∧ t.mod ≤ x.mod) && !hasMail x t.uid && !((x.tombs.take i).any fun u => decide (u.uid = t.uid)) &&
    (decide (i = 0) || decide ((x.tombs[i - 1]?.getD Tomb.z).mod < t.mod) || (decide ((x.tombs[i - 1]?.getD Tomb.z).mod = t.mod) && decide ((x.tombs[i - 1]?.getD Tomb.z).uid < t.uid)))
def numbersOk (x : Box) : Bool := decide (1 ≤ x.valid ∧ x.valid ≤ 9999) && decide (1 ≤ x.next ∧ x.next ≤ 9999) && decide (1 ≤ x.mod ∧ x.mod ≤ 100000) && decide (0 ≤ x.horizon ∧ x.horizon ≤ x.mod)
def mailsOk (x : Box) : Bool := (List.range x.mails.length).all (mailOkAt x) && decide ((x.mails.length : Int) ≤ 30)
def tombsOk (x : Box) : Bool := (List.range x.tombs.length).all (tombOkAt x) && decide ((x.tombs.length : Int) ≤ 40)
def boxOk (x : Box) : Bool := boxName x.name && numbersOk x && mailsOk x && tombsOk x

theorem all_step {f : Nat → Bool} {i : Nat} (h : ∀ j, j < i → f j = true) (hi : f i = true) : ∀ j, j < i + 1 → f j = true := by
  intro j hj
  rcases Nat.lt_or_ge j i with g | g
  · exact h j g
  · obtain rfl : j = i := by omega
    exact hi
theorem all_bad {f : Nat → Bool} {i n : Nat} (hi : i < n) (h : f i = false) : (List.range n).all f = false := by
  rw [Bool.eq_false_iff]
  intro g
  rw [List.all_eq_true] at g
  have := g i (by simpa using hi)
  rw [h] at this; cases this
theorem all_end {f : Nat → Bool} {i n : Nat} (h : ∀ j, j < i → f j = true) (hi : n ≤ i) : (List.range n).all f = true := by
  rw [List.all_eq_true]
  intro j hj
  exact h j (by simp at hj; omega)
theorem pv_epq {α : Type} {k : Kd α} {H : AH} {id j q q' : Nat} {u : List Value} {B : Blk} {xs : List α} (d : α) (hq : q = q') (h : ∃ y, xs[q]? = some y ∧ EP k H id j u y B) : EP k H id j u (xs[q']?.getD d) B := by
  subst hq
  obtain ⟨y, hy, he⟩ := h
  rw [hy]; exact he
theorem and1 {a b : Bool} (h : (a && b) = true) : a = true := by cases a <;> simp_all

theorem any_take_step {α : Type} {p : α → Bool} {xs : List α} {i : Nat} {y : α} (h : (xs.take i).any p = false) (hy : xs[i]? = some y) (hp : p y = false) : (xs.take (i + 1)).any p = false := by
  rw [take_snoc hy, List.any_append, h]; simp [hp]
theorem any_take_bad {α : Type} {p : α → Bool} {xs : List α} {i n : Nat} {y : α} (hy : xs[i]? = some y) (hi : i < n) (hp : p y = true) : (xs.take n).any p = true := by
  rw [List.any_eq_true]
  exact ⟨y, List.mem_of_getElem? (i := i) (by rw [List.getElem?_take, if_pos hi, hy]), hp⟩
theorem any_at {α : Type} {p : α → Bool} {xs : List α} {i : Nat} {y : α} (hy : xs[i]? = some y) (hp : p y = true) : xs.any p = true := by
  rw [List.any_eq_true]; exact ⟨y, List.mem_of_getElem? hy, hp⟩
theorem any_end {α : Type} {p : α → Bool} {xs : List α} {i : Nat} (h : (xs.take i).any p = false) (hi : xs.length ≤ i) : xs.any p = false := by
  rw [List.take_of_length_le hi] at h; exact h
theorem all_take_step {α : Type} {p : α → Bool} {xs : List α} {i : Nat} {y : α} (h : (xs.take i).all p = true) (hy : xs[i]? = some y) (hp : p y = true) : (xs.take (i + 1)).all p = true := by
  rw [take_snoc hy, List.all_append, h]; simp [hp]
theorem all_take_end {α : Type} {p : α → Bool} {xs : List α} {i : Nat} (h : (xs.take i).all p = true) (hi : xs.length ≤ i) : xs.all p = true := by
  rw [List.take_of_length_le hi] at h; exact h
theorem all_at {α : Type} {p : α → Bool} {xs : List α} {i : Nat} {y : α} (hy : xs[i]? = some y) (hp : p y = false) : xs.all p = false := by
  rw [Bool.eq_false_iff]; intro g; rw [List.all_eq_true] at g; have := g y (List.mem_of_getElem? hy); rw [hp] at this; cases this
end Go.Proofs.YtaccaelocddakaaDoor
namespace Go.Proofs.YtaccaelocddakaaDoor
set_option linter.unusedVariables false
set_option linter.unusedSectionVars false
variable [Tabs]
def szMailL (x : Mail) (l : Int) : Int := szl x.text.length l
theorem szMailL_le (x : Mail) (l : Int) (h : 0 ≤ l) : szMailL x l ≤ l := szl_le h
def szBoxL (x : Box) (l : Int) : Int :=
  if l - x.name.length < 0 then -1 else if szS szMailL x.mails (l - x.name.length) < 0 then -1 else szl x.tombs.length (szS szMailL x.mails (l - x.name.length))
end Go.Proofs.YtaccaelocddakaaDoor
namespace Go.Proofs.YtaccaelocddakaaDoor
set_option linter.unusedVariables false
set_option linter.unusedSectionVars false
variable [Tabs]
theorem bool_or5 (a z q c d e : Bool) : (bif (bif (bif (bif !a then true else (bif z then q else false)) then true else !c) then true else !d) then true else !e) = !(a && (!z || !q) && c && d && e) := by cases a <;> cases z <;> cases q <;> cases c <;> cases d <;> cases e <;> rfl
theorem dec_pos (i : Nat) : (!decide ((0 : Int) < (i : Int))) = decide (i = 0) := by
  rcases Nat.eq_zero_or_pos i with h | h
  · subst h; rfl
  · rw [decide_eq_true (show (0 : Int) < (i : Int) by omega), decide_eq_false (show ¬ i = 0 by omega)]; rfl
theorem dec_nle (a b : Int) : (!decide (a ≤ b)) = decide (b < a) := by
  by_cases h : a ≤ b
  · rw [decide_eq_true h, decide_eq_false (by omega)]; rfl
  · rw [decide_eq_false h, decide_eq_true (by omega)]; rfl
theorem dec_nlt (a b : Int) : (!decide (a < b)) = decide (b ≤ a) := by
  by_cases h : a < b
  · rw [decide_eq_true h, decide_eq_false (by omega)]; rfl
  · rw [decide_eq_false h, decide_eq_true (by omega)]; rfl
/-- What both programs ask of a mail. -/
theorem mail_cond {x : Box} {i : Nat} {y : Mail} (hy : x.mails[i]? = some y) :
    (bif (bif (bif (bif !decide (1 ≤ y.uid ∧ y.uid ≤ x.next - 1) then true else (bif decide ((0 : Int) < (i : Int)) then decide (y.uid ≤ (x.mails[i - 1]?.getD Mail.z).uid) else false)) then true else !decide (0 ≤ y.flags ∧ y.flags ≤ 31)) then true else !decide (1 ≤ y.mod ∧ y.mod ≤ x.mod)) then true else !mailOk y.text) = !mailOkAt x i := by
  rw [bool_or5, dec_pos, dec_nle]
  unfold mailOkAt; rw [hy]
theorem mail_no {x : Box} {i : Nat} {b : Bool} (h : b = !mailOkAt x i) (hb : b = true) : mailOkAt x i = false := by rw [h] at hb; simpa using hb
theorem mail_yes {x : Box} {i : Nat} {b : Bool} (h : b = !mailOkAt x i) (hb : b = false) : mailOkAt x i = true := by rw [h] at hb; simpa using hb

theorem tomb_parts {x : Box} {i : Nat} {t : Tomb} (hy : x.tombs[i]? = some t) : tombOkAt x i = (decide (1 ≤ t.uid ∧ t.uid ≤ x.next - 1) && decide (x.horizon < t.mod ∧ t.mod ≤ x.mod) && !hasMail x t.uid && !((x.tombs.take i).any fun u => decide (u.uid = t.uid)) &&
    !(bif decide ((0 : Int) < (i : Int)) then (bif decide (t.mod < (x.tombs[i - 1]?.getD Tomb.z).mod) then true else (bif decide ((x.tombs[i - 1]?.getD Tomb.z).mod = t.mod) then decide (t.uid ≤ (x.tombs[i - 1]?.getD Tomb.z).uid) else false)) else false)) := by
  unfold tombOkAt; rw [hy]
  simp only
  congr 1
  generalize (x.tombs[i - 1]?.getD Tomb.z) = p
  rw [← dec_pos, ← dec_nle t.uid p.uid]
  cases decide ((0 : Int) < (i : Int)) with
  | false => rfl
  | true =>
    by_cases h1 : p.mod < t.mod
    · rw [decide_eq_true h1, decide_eq_false (show ¬ t.mod < p.mod by omega), decide_eq_false (show ¬ p.mod = t.mod by omega)]; rfl
    · rw [decide_eq_false h1]
      by_cases h2 : p.mod = t.mod
      · rw [decide_eq_true h2, decide_eq_false (show ¬ t.mod < p.mod by omega)]; rfl
      · rw [decide_eq_false h2, decide_eq_true (show t.mod < p.mod by omega)]; rfl
theorem box_nums {n v nx m l1 l2 h M T : Bool} : (bif (bif (bif (bif (bif (bif !n then true else !v) then true else !nx) then true else !m) then true else l1) then true else l2) then true else !h) = true → (n && (v && nx && m && h) && (M && !l1) && (T && !l2)) = false := by
  cases n <;> cases v <;> cases nx <;> cases m <;> cases l1 <;> cases l2 <;> cases h <;> simp
end Go.Proofs.YtaccaelocddakaaDoor
namespace Go.Proofs.YtaccaelocddakaaDoor
theorem tomb_b1 {a hm an z : Bool} {h m M : Int} : (bif (bif (bif !a then true else decide (m ≤ h)) then true else decide (M < m)) then true else hm) = true → (a && decide (h < m ∧ m ≤ M) && !hm && !an && z) = false := by
  intro g
  by_cases h1 : m ≤ h
  · rw [decide_eq_false (show ¬ (h < m ∧ m ≤ M) by omega)]; simp
  · by_cases h2 : M < m
    · rw [decide_eq_false (show ¬ (h < m ∧ m ≤ M) by omega)]; simp
    · rw [decide_eq_false h1, decide_eq_false h2] at g
      cases a <;> cases hm <;> simp_all
end Go.Proofs.YtaccaelocddakaaDoor
