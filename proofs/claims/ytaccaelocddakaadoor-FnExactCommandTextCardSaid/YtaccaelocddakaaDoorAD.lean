/- A part of the proof: no conditions. -/
import Derived.Test.YtaccaelocddakaaDoorAC
import Derived.Lib.IndexLaws
namespace Go.Proofs.YtaccaelocddakaaDoor
open Go Go.RowKit
set_option linter.unusedVariables false
set_option linter.unusedSectionVars false
variable [Tabs]

/-! ### Parts of slices -/
theorem Kd.Rs.takeN {α : Type} {k : Kd α} {H : AH} {us : List Value} {xs : List α} (h : k.Rs H us xs) : ∀ n, k.Rs H (us.take (n * k.size)) (xs.take n) := by
  induction h with
  | nil => intro n; simp; exact .nil
  | cons h t ih =>
    intro n
    cases n with
    | zero => simp; exact .nil
    | succ n =>
      have e := k.len h
      rw [List.take_succ_cons, Nat.succ_mul, Nat.add_comm, List.take_append, e, Nat.add_sub_cancel_left, List.take_of_length_le (by omega)]
      exact .cons h (ih n)
theorem Kd.Rs.dropN {α : Type} {k : Kd α} {H : AH} {us : List Value} {xs : List α} (h : k.Rs H us xs) : ∀ n, k.Rs H (us.drop (n * k.size)) (xs.drop n) := by
  induction h with
  | nil => intro n; simp; exact .nil
  | cons h t ih =>
    intro n
    cases n with
    | zero => simp; exact .cons h t
    | succ n =>
      have e := k.len h
      rw [List.drop_succ_cons, Nat.succ_mul, Nat.add_comm, List.drop_append, e, Nat.add_sub_cancel_left, List.drop_of_length_le (by omega), List.nil_append]
      exact ih n
theorem add_zero' (a : Addr) : a.add 0 = a := by unfold Addr.add; simp
theorem S_sub {α : Type} {k : Kd α} {H : AH} {id j c : Nat} {xs : List α} {B : Blk} (h2 : xs.length ≤ c ∧ xs.length ≤ lim) (h3 : H[id]? = some B) (h4 : B.st ≠ .dead) (h5 : B.esz = k.size) (h6 : j + xs.length * k.size ≤ B.cells.length) (h7 : k.Rs H ((B.cells.drop j).take (xs.length * k.size)) xs)
    (l h : Nat) (hl : l ≤ h) (hh : h ≤ xs.length) (c' : Nat) (hc : h - l ≤ c') : k.S H (.slice (some ⟨id, j + l * k.size, none⟩) (h - l) c') ((xs.drop l).take (h - l)) := by
  have hlen : ((xs.drop l).take (h - l)).length = h - l := by simp; omega
  have m1 := Nat.mul_le_mul_right k.size hh
  have m2 : l * k.size + (h - l) * k.size = h * k.size := by rw [← Nat.add_mul]; congr 1; omega
  refine .inr ⟨id, j + l * k.size, c', B, by rw [hlen], ⟨by omega, by rw [hlen]; omega⟩, h3, h4, h5, by rw [hlen]; omega, ?_⟩
  rw [hlen]
  have := (h7.dropN l).takeN (h - l)
  rw [List.drop_take, List.take_take, List.drop_drop] at this
  have m3 : (h - l) * k.size ≤ xs.length * k.size - l * k.size := by omega
  rw [Nat.min_eq_left m3] at this
  exact this

section
variable {P : Program} {ops : Array Oper} {K : GF → AH → Prop} {rest : List Oper} {sps : List Bool} {G : GF} {H H0 : AH} {g : Bool} {dst : Option Nat} {ty : TypeId} {pos : String} {aft : Array Edge} {gd : Option (Nat × Bool)}

/-- A part of a slice. -/
theorem RVs.sliceS {α : Type} {k : Kd α} {xs : List α} {v : Value} {t e bytes : Nat} {x : Operand} {lo hi : Option Operand} {l h : Nat} (hx : G.raw x = some v) (hS : k.S H v xs) (ht : elemOf P t = some (e, k.size, bytes))
    (hl : match lo with | none => l = 0 | some y => ∃ kd, G.raw y = some (.int kd (l : Int))) (hh : match hi with | none => h = xs.length | some y => ∃ kd, G.raw y = some (.int kd (h : Int)))
    (hd : dstOk G ⟨dst, .slice t x lo hi none, ty, pos, aft, gd⟩ = true)
    (hg : g = true) (hc : G.cond x = true ∧ (∀ y, lo = some y → G.cond y = true) ∧ (∀ y, hi = some y → G.cond y = true)) (h1 : l ≤ h) (h2 : h ≤ xs.length)
    (kk : ∀ (a' : Option Addr) (c' : Nat), k.S H (.slice a' (h - l) c') ((xs.drop l).take (h - l)) → VC P ops K rest sps.tail (G.put dst (true, .slice a' (h - l) c')) H) :
    RVs P ops K ⟨dst, .slice t x lo hi none, ty, pos, aft, gd⟩ rest sps G H g := by
  subst hg
  have fin : ∀ (b : Option Addr) (cp : Nat), v = .slice b xs.length cp → xs.length ≤ cp → (∀ q, b = some q → ∃ B, H[q.block]? = some B ∧ B.esz = k.size) →
      k.S H (.slice (if (cp : Int) = (l : Int) then b else b.map (·.add ((l : Int).toNat * k.size))) (h - l) (cp - l)) ((xs.drop l).take (h - l)) →
      RVs P ops K ⟨dst, .slice t x lo hi none, ty, pos, aft, gd⟩ rest sps G H true := by
    intro b cp hv hcp hB hs
    subst hv
    have := RVs.slice (P := P) (ops := ops) (K := K) (rest := rest) (sps := sps) (dst := dst) (ty := ty) (pos := pos) (aft := aft) (gd := gd) (g := true) (lo := lo) (hi := hi) (mx := none) (l := (l : Int)) (h := (h : Int)) (m := (cp : Int)) hx ht
      (by cases lo with | none => simp only at hl ⊢; omega | some y => exact hl) (by cases hi with | none => simp only at hh ⊢; exact ⟨trivial, by omega⟩ | some y => exact hh) rfl hd rfl
      (fun _ => ⟨⟨hc.1, hc.2.1, hc.2.2, fun y hy => by cases hy⟩, hB, by omega, by omega, by omega, by omega⟩) ?_
    · exact this
    · have := kk _ _ hs
      rw [show ((h : Int)).toNat - ((l : Int)).toNat = h - l by omega, show ((cp : Int)).toNat - ((l : Int)).toNat = cp - l by omega]
      exact this
  have hS' := hS
  rcases hS with ⟨rfl, rfl⟩ | ⟨id, j, c, B, rfl, h3, h4, h5, h6, h7, h8⟩
  · simp at h2
    subst h2
    obtain rfl : l = 0 := by omega
    exact fin none 0 rfl (Nat.le_refl _) (fun q hq => by cases hq) (.inl ⟨by simp, by simp⟩)
  · refine fin (some ⟨id, j, none⟩) c rfl h3.1 (fun q hq => by cases hq; exact ⟨B, h4, h6⟩) ?_
    have hsub := S_sub h3 h4 h5 h6 h7 h8 l h h1 h2 (c - l) (by omega)
    by_cases hcl : (c : Int) = (l : Int)
    · rw [if_pos hcl]
      have e0 : (xs.drop l).take (h - l) = [] := by rw [show h - l = 0 by omega]; simp
      rw [e0, show h - l = 0 by omega]
      refine .inr ⟨id, j, c - l, B, rfl, ⟨by simp, by simp⟩, h4, h5, h6, by simp; omega, by simp; exact .nil⟩
    · rw [if_neg hcl]
      simpa [Addr.add_eq] using hsub
end

/-! ### Where the first one stands -/
def idxP {α : Type} (p : α → Bool) : List α → Int
  | [] => -1
  | x :: xs => if p x then 0 else if idxP p xs < 0 then -1 else idxP p xs + 1
theorem idxP_at {α : Type} {p : α → Bool} : ∀ {xs : List α} {i : Nat} {y : α}, (xs.take i).any p = false → xs[i]? = some y → p y = true → idxP p xs = i
  | [], i, y, _, h, _ => by simp at h
  | x :: xs, 0, y, _, h, hp => by simp at h; subst h; simp [idxP, hp]
  | x :: xs, i + 1, y, h, hy, hp => by
    simp only [List.take_succ_cons, List.any_cons, Bool.or_eq_false_iff] at h
    have := idxP_at h.2 (by simpa using hy) hp
    rw [idxP, h.1, this]; simp; omega
theorem idxP_none {α : Type} {p : α → Bool} : ∀ {xs : List α}, xs.any p = false → idxP p xs = -1
  | [], _ => rfl
  | x :: xs, h => by
    simp only [List.any_cons, Bool.or_eq_false_iff] at h
    rw [idxP, h.1, idxP_none h.2]; rfl
theorem idxP_any {α : Type} {p : α → Bool} : ∀ (xs : List α), decide (0 ≤ idxP p xs) = xs.any p
  | [] => rfl
  | x :: xs => by
    have ih := idxP_any xs (p := p)
    rw [idxP, List.any_cons, ← ih]
    cases p x with
    | true => rfl
    | false =>
      by_cases h : idxP p xs < 0
      · rw [decide_eq_false (show ¬ 0 ≤ idxP p xs by omega)]; simp [h]
      · rw [decide_eq_true (show 0 ≤ idxP p xs by omega)]; simp [h]; omega
theorem idxP_lt {α : Type} {p : α → Bool} : ∀ (xs : List α), -1 ≤ idxP p xs ∧ idxP p xs < xs.length
  | [] => by simp [idxP]
  | x :: xs => by
    have ih := idxP_lt xs (p := p)
    rw [idxP, List.length_cons]
    split
    · omega
    · split <;> omega
theorem idxP_get {α : Type} {p : α → Bool} {xs : List α} (h : 0 ≤ idxP p xs) : ∃ y, xs[(idxP p xs).toNat]? = some y ∧ p y = true := by
  induction xs with
  | nil => simp [idxP] at h
  | cons x xs ih =>
    rw [idxP] at h ⊢
    split
    · rename_i hp; exact ⟨x, rfl, hp⟩
    · rename_i hp
      rw [if_neg hp] at h
      split at h
      · exact absurd h (by decide)
      · rename_i hn
        obtain ⟨y, h1, h2⟩ := ih (by omega)
        rw [if_neg hn]
        refine ⟨y, ?_, h2⟩
        rw [show (idxP p xs + 1).toNat = (idxP p xs).toNat + 1 by omega]; simpa using h1

theorem indexByte_neg (l : List UInt8) : decide (Lib.indexByte l 0 < 0) = l.all fun c => decide (c.toNat ≠ 0) := by
  induction l with
  | nil => rfl
  | cons b l ih =>
    rw [List.all_cons, ← ih, Lib.indexByte]
    have hg := Lib.indexByte_ge l 0
    by_cases hb : b = 0
    · subst hb; rfl
    · have h1 : (b == 0) = false := by simpa using hb
      have h2 : b.toNat ≠ 0 := fun h => hb (by apply UInt8.toNat_inj.1; simpa using h)
      rw [h1, decide_eq_true h2]
      by_cases hi : Lib.indexByte l 0 = -1
      · rw [hi]; rfl
      · have : (Lib.indexByte l 0 == -1) = false := by simpa using hi
        rw [this, decide_eq_false (show ¬ Lib.indexByte l 0 < 0 by omega)]
        simp; omega
theorem mailOk_ib (t : List UInt8) : (bif decide (1 ≤ (t.length : Int) ∧ (t.length : Int) ≤ 200) then decide (Lib.indexByte t 0 < 0) else false) = mailOk t := by
  rw [indexByte_neg]; unfold mailOk
  have : decide (1 ≤ (t.length : Int) ∧ (t.length : Int) ≤ 200) = decide (1 ≤ t.length ∧ t.length ≤ 200) := decide_eq_decide.2 (by omega)
  rw [this, Bool.and_comm]
  cases decide (1 ≤ t.length ∧ t.length ≤ 200) <;> rfl
end Go.Proofs.YtaccaelocddakaaDoor
namespace Go.Proofs.YtaccaelocddakaaDoor
set_option linter.unusedVariables false
set_option linter.unusedSectionVars false
variable [Tabs]
theorem hasMail_idx {x : Box} {u : Int} : decide (0 ≤ idxP (fun m : Mail => decide (m.uid = u)) x.mails) = hasMail x u := idxP_any _
theorem tomb_b2 {a sm hm z : Bool} {h m M : Int} : (bif (bif (bif !a then true else !decide (h + 1 ≤ m ∧ m ≤ M)) then true else sm) then true else hm) = true → (a && decide (h < m ∧ m ≤ M) && !hm && !sm && z) = false := by
  intro g
  rw [show decide (h + 1 ≤ m ∧ m ≤ M) = decide (h < m ∧ m ≤ M) from decide_eq_decide.2 (by omega)] at g
  generalize decide (h < m ∧ m ≤ M) = d at *
  cases a <;> cases d <;> cases sm <;> cases hm <;> simp_all
theorem tomb_b3 {a sm hm : Bool} {h m M : Int} : (bif (bif (bif !a then true else !decide (h + 1 ≤ m ∧ m ≤ M)) then true else sm) then true else hm) = false → a = true ∧ decide (h < m ∧ m ≤ M) = true ∧ hm = false ∧ sm = false := by
  intro g
  rw [show decide (h + 1 ≤ m ∧ m ≤ M) = decide (h < m ∧ m ≤ M) from decide_eq_decide.2 (by omega)] at g
  generalize decide (h < m ∧ m ≤ M) = d at *
  cases a <;> cases d <;> cases sm <;> cases hm <;> simp_all
theorem numbers_of {x : Box} (h : numbersOk x = true) : (1 ≤ x.valid ∧ x.valid ≤ 9999) ∧ (1 ≤ x.next ∧ x.next ≤ 9999) ∧ (1 ≤ x.mod ∧ x.mod ≤ 100000) ∧ (0 ≤ x.horizon ∧ x.horizon ≤ x.mod) := by
  unfold numbersOk at h
  simp only [Bool.and_eq_true, decide_eq_true_eq] at h
  exact ⟨h.1.1.1, h.1.1.2, h.1.2, h.2⟩
/-- What the program asks of a box's numbers. -/
def nums (x : Box) : Bool := (bif (bif (bif decide (1 ≤ x.valid ∧ x.valid ≤ 9999) then decide (1 ≤ x.next ∧ x.next ≤ 9999) else false) then decide (1 ≤ x.mod ∧ x.mod ≤ 100000) else false) then decide (0 ≤ x.horizon ∧ x.horizon ≤ x.mod) else false)
theorem nums_eq (x : Box) : nums x = numbersOk x := by
  unfold nums numbersOk
  cases decide (1 ≤ x.valid ∧ x.valid ≤ 9999) <;> cases decide (1 ≤ x.next ∧ x.next ≤ 9999) <;> cases decide (1 ≤ x.mod ∧ x.mod ≤ 100000) <;> cases decide (0 ≤ x.horizon ∧ x.horizon ≤ x.mod) <;> rfl
theorem numbers_next {x : Box} (h : numbersOk x = true) : 1 ≤ x.next ∧ x.next ≤ 9999 := (numbers_of h).2.1
theorem box_g1 {x : Box} {b : Bool} (h : (true && (bif b then nums x else false) == true) = true) : numbersOk x = true := by
  rw [← nums_eq]; cases b <;> cases hn : nums x <;> simp_all
theorem box_g2 {x : Box} {b m q : Bool} (h : (q && (bif (bif b then nums x else false) then m else false) == true) = true) : numbersOk x = true := by
  rw [← nums_eq]; cases b <;> cases hn : nums x <;> simp_all
theorem box_fin (x : Box) (n : Bool) : (bif (bif (bif n then nums x else false) then mailsOk x else false) then tombsOk x else false) = (n && numbersOk x && mailsOk x && tombsOk x) := by
  rw [nums_eq]; cases n <;> cases numbersOk x <;> cases mailsOk x <;> cases tombsOk x <;> rfl
end Go.Proofs.YtaccaelocddakaaDoor
