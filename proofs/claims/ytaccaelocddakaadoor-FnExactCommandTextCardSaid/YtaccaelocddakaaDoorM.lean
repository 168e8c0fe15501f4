/- A part of the proof: no conditions. -/
import Derived.Test.YtaccaelocddakaaDoorL
namespace Go.Proofs.YtaccaelocddakaaDoor
open Go Go.RowKit
set_option linter.unusedVariables false
set_option linter.unusedSectionVars false
variable [Tabs]

/-- What is live in one heap is the same in the other. -/
def HLe (H H' : AH) : Prop := ∀ (i : Nat) (B : Blk), H[i]? = some B → B.st ≠ .dead → H'[i]? = some B
theorem hle {H H' : AH} (p : H <+: H') : HLe H H' := fun _ _ h _ => get_prefix p h
theorem HLe.refl {H : AH} : HLe H H := fun _ _ h _ => h
theorem HLe.trans {H1 H2 H3 : AH} (h : HLe H1 H2) (k : HLe H2 H3) : HLe H1 H3 := fun i B e d => k i B (h i B e d) d

/-- A kind of data: its cells, how they tell it; 'W': all its blocks may be written, and which they are. -/
structure Kd (α : Type) where
  size : Nat
  R : AH → List Value → α → Prop
  len : ∀ {H : AH} {us : List Value} {x : α}, R H us x → us.length = size
  mono : ∀ {H H' : AH} {us : List Value} {x : α}, HLe H H' → R H us x → R H' us x
  oc : ∀ {H : AH} {us : List Value} {x : α}, R H us x → us.all oneCell = true
  W : AH → List Value → α → List Nat → Prop
  wr : ∀ {H : AH} {us : List Value} {x : α} {F : List Nat}, W H us x F → R H us x
  wloc : ∀ {H H' : AH} {us : List Value} {x : α} {F : List Nat}, (∀ i ∈ F, H'[i]? = H[i]?) → W H us x F → W H' us x F
  wlt : ∀ {H : AH} {us : List Value} {x : α} {F : List Nat}, W H us x F → ∀ i ∈ F, i < H.length
theorem lt_of_at {H : AH} {i : Nat} {B : Blk} (h : H[i]? = some B) : i < H.length := by
  rcases Nat.lt_or_ge i H.length with g | g
  · exact g
  · simp [List.getElem?_eq_none g] at h

def Kd.int (k : IntKind) : Kd Int := ⟨1, fun _ us n => us = [.int k n], fun h => by simp [h], fun _ h => h, fun h => by simp [h], fun _ us n F => us = [.int k n] ∧ F = [], fun h => h.1, fun _ h => h, fun h => by simp [h.2]⟩
def Kd.bool : Kd Bool := ⟨1, fun _ us b => us = [.bool b], fun h => by simp [h], fun _ h => h, fun h => by simp [h], fun _ us n F => us = [.bool n] ∧ F = [], fun h => h.1, fun _ h => h, fun h => by simp [h.2]⟩
/-- No string, no slice is longer. -/
def lim : Nat := 9223372036854775807
def Kd.str : Kd (List UInt8) := ⟨1, fun _ us l => us = [.string (bs l)] ∧ l.length ≤ lim, fun h => by simp [h.1], fun _ h => h, fun h => by simp [h.1], fun _ us n F => (us = [.string (bs n)] ∧ n.length ≤ lim) ∧ F = [], fun h => h.1, fun _ h => h, fun h => by simp [h.2]⟩
def Kd.pair {α β : Type} (a : Kd α) (b : Kd β) : Kd (α × β) :=
  ⟨a.size + b.size, fun H us x => ∃ u1 u2, us = u1 ++ u2 ∧ a.R H u1 x.1 ∧ b.R H u2 x.2,
   fun ⟨u1, u2, h, h1, h2⟩ => by rw [h, List.length_append, a.len h1, b.len h2], fun p ⟨u1, u2, h, h1, h2⟩ => ⟨u1, u2, h, a.mono p h1, b.mono p h2⟩,
   fun ⟨u1, u2, h, h1, h2⟩ => by rw [h, List.all_append, a.oc h1, b.oc h2]; rfl,
   fun H us x F => ∃ u1 u2 F1 F2, us = u1 ++ u2 ∧ F = F1 ++ F2 ∧ a.W H u1 x.1 F1 ∧ b.W H u2 x.2 F2,
   fun ⟨u1, u2, F1, F2, h, _, h1, h2⟩ => ⟨u1, u2, h, a.wr h1, b.wr h2⟩,
   fun p ⟨u1, u2, F1, F2, h, hF, h1, h2⟩ => ⟨u1, u2, F1, F2, h, hF, a.wloc (fun i hi => p i (by rw [hF]; exact List.mem_append_left _ hi)) h1, b.wloc (fun i hi => p i (by rw [hF]; exact List.mem_append_right _ hi)) h2⟩,
   fun ⟨u1, u2, F1, F2, h, hF, h1, h2⟩ i hi => by rw [hF] at hi; exact (List.mem_append.1 hi).elim (a.wlt h1 i) (b.wlt h2 i)⟩
def Kd.iso {α β : Type} (a : Kd α) (f : β → α) : Kd β := ⟨a.size, fun H us x => a.R H us (f x), fun h => a.len h, fun p h => a.mono p h, fun h => a.oc h, fun H us x F => a.W H us (f x) F, fun h => a.wr h, fun p h => a.wloc p h, fun h => a.wlt h⟩

/-- Cells of several, one behind the other. -/
inductive Kd.Rs {α : Type} (k : Kd α) (H : AH) : List Value → List α → Prop
  | nil : Rs k H [] []
  | cons {u us : List Value} {x : α} {xs : List α} (h : k.R H u x) (t : Rs k H us xs) : Rs k H (u ++ us) (x :: xs)

/-- The same, and all their blocks may be written. -/
inductive Kd.Ws {α : Type} (k : Kd α) (H : AH) : List Value → List α → List Nat → Prop
  | nil : Ws k H [] [] []
  | cons {u us : List Value} {x : α} {xs : List α} {F Fs : List Nat} (h : k.W H u x F) (t : Ws k H us xs Fs) : Ws k H (u ++ us) (x :: xs) (F ++ Fs)

theorem Kd.Ws.rs {α : Type} {k : Kd α} {H : AH} {us : List Value} {xs : List α} {F : List Nat} (h : k.Ws H us xs F) : k.Rs H us xs := by
  induction h with
  | nil => exact .nil
  | cons h _ ih => exact .cons (k.wr h) ih
theorem Kd.Ws.loc {α : Type} {k : Kd α} {H H' : AH} {us : List Value} {xs : List α} {F : List Nat} (h : k.Ws H us xs F) : (∀ i ∈ F, H'[i]? = H[i]?) → k.Ws H' us xs F := by
  induction h with
  | nil => intro _; exact .nil
  | cons h _ ih => intro p; exact .cons (k.wloc (fun i hi => p i (List.mem_append_left _ hi)) h) (ih fun i hi => p i (List.mem_append_right _ hi))
theorem Kd.Ws.lt {α : Type} {k : Kd α} {H : AH} {us : List Value} {xs : List α} {F : List Nat} (h : k.Ws H us xs F) : ∀ i ∈ F, i < H.length := by
  induction h with
  | nil => intro i hi; cases hi
  | cons h _ ih => intro i hi; exact (List.mem_append.1 hi).elim (k.wlt h i) (ih i)
theorem Kd.Ws.append {α : Type} {k : Kd α} {H : AH} {us vs : List Value} {xs ys : List α} {F G : List Nat} (h : k.Ws H us xs F) (h' : k.Ws H vs ys G) : k.Ws H (us ++ vs) (xs ++ ys) (F ++ G) := by
  induction h with
  | nil => exact h'
  | cons h _ ih => rw [List.append_assoc, List.append_assoc]; exact .cons h ih
theorem Kd.Ws.one {α : Type} {k : Kd α} {H : AH} {us : List Value} {x : α} {F : List Nat} (h : k.W H us x F) : k.Ws H us [x] F := by
  have := Kd.Ws.cons h (Kd.Ws.nil (k := k) (H := H)); simpa using this

theorem Kd.Rs.len {α : Type} {k : Kd α} {H : AH} {us : List Value} {xs : List α} (h : k.Rs H us xs) : us.length = xs.length * k.size := by
  induction h with
  | nil => simp
  | cons h _ ih => rw [List.length_append, k.len h, ih, List.length_cons, Nat.succ_mul]; omega
theorem Kd.Rs.mono {α : Type} {k : Kd α} {H H' : AH} (p : HLe H H') {us : List Value} {xs : List α} (h : k.Rs H us xs) : k.Rs H' us xs := by
  induction h with
  | nil => exact .nil
  | cons h _ ih => exact .cons (k.mono p h) ih
theorem Kd.Rs.oc {α : Type} {k : Kd α} {H : AH} {us : List Value} {xs : List α} (h : k.Rs H us xs) : us.all oneCell = true := by
  induction h with
  | nil => rfl
  | cons h _ ih => rw [List.all_append, k.oc h, ih]; rfl
theorem Kd.Rs.append {α : Type} {k : Kd α} {H : AH} {us vs : List Value} {xs ys : List α} (h : k.Rs H us xs) (h' : k.Rs H vs ys) : k.Rs H (us ++ vs) (xs ++ ys) := by
  induction h with
  | nil => exact h'
  | cons h _ ih => rw [List.append_assoc]; exact .cons h ih
theorem Kd.Rs.one {α : Type} {k : Kd α} {H : AH} {us : List Value} {x : α} (h : k.R H us x) : k.Rs H us [x] := by
  have := Kd.Rs.cons h (Kd.Rs.nil (k := k) (H := H)); simpa using this
/-- One of several. -/
theorem Kd.Rs.get {α : Type} {k : Kd α} {H : AH} {us : List Value} {xs : List α} (h : k.Rs H us xs) : ∀ {i : Nat} {x : α}, xs[i]? = some x → ∃ u, k.R H u x ∧ ∀ f, f < k.size → us[i * k.size + f]? = u[f]? := by
  induction h with
  | nil => intro i x h; simp at h
  | cons h t ih =>
    rename_i u us y ys
    intro i x hx
    cases i with
    | zero =>
      simp at hx; subst hx
      exact ⟨u, h, fun f hf => by rw [Nat.zero_mul, Nat.zero_add, List.getElem?_append_left (by rw [k.len h]; exact hf)]⟩
    | succ i =>
      simp at hx
      obtain ⟨v, h1, h2⟩ := ih hx
      refine ⟨v, h1, fun f hf => ?_⟩
      rw [List.getElem?_append_right (by rw [k.len h, Nat.succ_mul]; omega), k.len h, show (i + 1) * k.size + f - k.size = i * k.size + f by rw [Nat.succ_mul]; omega]
      exact h2 f hf
theorem Kd.Rs.take_get {α : Type} {k : Kd α} {H : AH} {us : List Value} {xs : List α} (h : k.Rs H us xs) {i : Nat} {x : α} (hx : xs[i]? = some x) : k.R H ((us.drop (i * k.size)).take k.size) x := by
  obtain ⟨u, h1, h2⟩ := h.get hx
  have : (us.drop (i * k.size)).take k.size = u := by
    apply List.ext_getElem?
    intro f
    by_cases hf : f < k.size
    · rw [List.getElem?_take, if_pos hf, List.getElem?_drop, h2 f hf]
    · rw [List.getElem?_take, if_neg hf, List.getElem?_eq_none (by rw [k.len h1]; omega)]
  rw [this]; exact h1
theorem Kd.Rs.set {α : Type} {k : Kd α} {H : AH} {us : List Value} {xs : List α} (h : k.Rs H us xs) : ∀ {i : Nat} {u : List Value} {y : α}, i < xs.length → k.R H u y → k.Rs H (us.take (i * k.size) ++ u ++ us.drop (i * k.size + k.size)) (xs.set i y) := by
  induction h with
  | nil => intro i u y hi; simp at hi
  | cons h t ih =>
    rename_i v vs x xs
    intro i u y hi hu
    cases i with
    | zero =>
      have hl := k.len h
      simp only [Nat.zero_mul, List.take_zero, List.nil_append, Nat.zero_add, List.set_cons_zero]
      rw [List.drop_append_of_le_length (by omega), List.drop_of_length_le (by omega), List.nil_append]
      exact .cons hu t
    | succ i =>
      have hl := k.len h
      simp only [List.set_cons_succ]
      have e1 : (v ++ vs).take ((i + 1) * k.size) = v ++ vs.take (i * k.size) := by
        rw [List.take_append, List.take_of_length_le (by rw [Nat.succ_mul]; omega), hl]; congr 2; rw [Nat.succ_mul]; omega
      have e2 : (v ++ vs).drop ((i + 1) * k.size + k.size) = vs.drop (i * k.size + k.size) := by
        rw [List.drop_append, List.drop_of_length_le (by rw [Nat.succ_mul]; omega), List.nil_append, hl]; congr 1; rw [Nat.succ_mul]; omega
      rw [e1, e2, List.append_assoc, List.append_assoc]
      have := ih (i := i) (by simp at hi; omega) hu
      rw [List.append_assoc] at this
      exact .cons h this

/-- A slice. -/
def Kd.S {α : Type} (k : Kd α) (H : AH) (v : Value) (xs : List α) : Prop :=
  (v = .slice none 0 0 ∧ xs = []) ∨ ∃ id j c B, v = .slice (some ⟨id, j, none⟩) xs.length c ∧ (xs.length ≤ c ∧ xs.length ≤ lim) ∧ H[id]? = some B ∧ B.st ≠ .dead ∧ B.esz = k.size ∧ j + xs.length * k.size ≤ B.cells.length ∧ k.Rs H ((B.cells.drop j).take (xs.length * k.size)) xs

theorem Kd.S.mono {α : Type} {k : Kd α} {H H' : AH} (p : HLe H H') {v : Value} {xs : List α} (h : k.S H v xs) : k.S H' v xs := by
  rcases h with h | ⟨id, j, c, B, h1, h2, h3, h4, h5, h6, h7⟩
  · exact .inl h
  · exact .inr ⟨id, j, c, B, h1, h2, p _ _ h3 h4, h4, h5, h6, h7.mono p⟩
theorem Kd.S.form {α : Type} {k : Kd α} {H : AH} {v : Value} {xs : List α} (h : k.S H v xs) : ∃ a c, v = .slice a xs.length c ∧ xs.length ≤ c := by
  rcases h with ⟨rfl, rfl⟩ | ⟨id, j, c, B, rfl, h2, _⟩
  · exact ⟨_, _, rfl, Nat.le_refl _⟩
  · exact ⟨_, _, rfl, h2.1⟩
theorem Kd.S.lim {α : Type} {k : Kd α} {H : AH} {v : Value} {xs : List α} (h : k.S H v xs) : xs.length ≤ lim := by
  rcases h with ⟨rfl, rfl⟩ | ⟨id, j, c, B, rfl, h2, _⟩
  · exact Nat.zero_le _
  · exact h2.2
theorem Kd.S.oc {α : Type} {k : Kd α} {H : AH} {v : Value} {xs : List α} (h : k.S H v xs) : oneCell v = true := by
  obtain ⟨a, c, rfl, _⟩ := h.form; rfl

/-- A slice whose blocks, and all that it leads to, may be written. -/
def Kd.WS {α : Type} (k : Kd α) (H : AH) (v : Value) (xs : List α) (F : List Nat) : Prop :=
  (v = .slice none 0 0 ∧ xs = [] ∧ F = []) ∨ ∃ id j c B F', F = id :: F' ∧ v = .slice (some ⟨id, j, none⟩) xs.length c ∧ (xs.length ≤ c ∧ xs.length ≤ lim) ∧ H[id]? = some B ∧ B.st = .rw ∧ B.esz = k.size ∧ j + xs.length * k.size ≤ B.cells.length ∧ k.Ws H ((B.cells.drop j).take (xs.length * k.size)) xs F'
theorem Kd.WS.S {α : Type} {k : Kd α} {H : AH} {v : Value} {xs : List α} {F : List Nat} (h : k.WS H v xs F) : k.S H v xs := by
  rcases h with ⟨h1, h2, _⟩ | ⟨id, j, c, B, F', h0, h1, h2, h3, h4, h5, h6, h7⟩
  · exact .inl ⟨h1, h2⟩
  · exact .inr ⟨id, j, c, B, h1, h2, h3, by rw [h4]; decide, h5, h6, h7.rs⟩
theorem Kd.WS.loc {α : Type} {k : Kd α} {H H' : AH} {v : Value} {xs : List α} {F : List Nat} (p : ∀ i ∈ F, H'[i]? = H[i]?) (h : k.WS H v xs F) : k.WS H' v xs F := by
  rcases h with h | ⟨id, j, c, B, F', h0, h1, h2, h3, h4, h5, h6, h7⟩
  · exact .inl h
  · subst h0
    exact .inr ⟨id, j, c, B, F', rfl, h1, h2, by rw [p id (by simp)]; exact h3, h4, h5, h6, h7.loc fun i hi => p i (by simp [hi])⟩

theorem Kd.WS.lt {α : Type} {k : Kd α} {H : AH} {v : Value} {xs : List α} {F : List Nat} (h : k.WS H v xs F) : ∀ i ∈ F, i < H.length := by
  rcases h with ⟨_, _, rfl⟩ | ⟨id, j, c, B, F', rfl, h1, h2, h3, h4, h5, h6, h7⟩
  · intro i hi; cases hi
  · intro i hi
    rcases List.mem_cons.1 hi with rfl | hi
    · exact lt_of_at h3
    · exact h7.lt i hi

def Kd.slice {α : Type} (k : Kd α) : Kd (List α) :=
  ⟨1, fun H us xs => ∃ v, us = [v] ∧ k.S H v xs, fun ⟨v, h, _⟩ => by simp [h], fun p ⟨v, h, h'⟩ => ⟨v, h, h'.mono p⟩, fun ⟨v, h, h'⟩ => by rw [h]; simp only [List.all_cons, List.all_nil, Bool.and_true]; exact h'.oc,
   fun H us xs F => ∃ v, us = [v] ∧ k.WS H v xs F, fun ⟨v, h, h'⟩ => ⟨v, h, h'.S⟩, fun p ⟨v, h, h'⟩ => ⟨v, h, h'.loc p⟩, fun ⟨v, h, h'⟩ => h'.lt⟩

/-- The row of a slice's cells, where it is not empty: what an element's load wants. -/
theorem Kd.S.elem {α : Type} {k : Kd α} {H : AH} {v : Value} {xs : List α} (h : k.S H v xs) {i : Nat} {x : α} (hx : xs[i]? = some x) :
    ∃ id j c B u, v = .slice (some ⟨id, j, none⟩) xs.length c ∧ H[id]? = some B ∧ B.st ≠ .dead ∧ k.R H u x ∧ (∀ f, f < k.size → B.cells[j + i * k.size + f]? = u[f]?) ∧ j + i * k.size + k.size ≤ B.cells.length := by
  rcases h with ⟨rfl, rfl⟩ | ⟨id, j, c, B, rfl, h2, h3, h4, h5, h6, h7⟩
  · simp at hx
  · obtain ⟨u, q1, q2⟩ := h7.get hx
    have hi : i < xs.length := by
      rcases Nat.lt_or_ge i xs.length with g | g
      · exact g
      · simp [List.getElem?_eq_none g] at hx
    have hle : i * k.size + k.size ≤ xs.length * k.size := by
      have := Nat.mul_le_mul_right k.size (show i + 1 ≤ xs.length by omega)
      rw [Nat.succ_mul] at this; omega
    refine ⟨id, j, c, B, u, rfl, h3, h4, q1, fun f hf => ?_, by omega⟩
    rw [← q2 f hf, List.getElem?_take, if_pos (by omega), List.getElem?_drop, Nat.add_assoc]

/-- A slice as a source of an append. -/
theorem Kd.S.src {α : Type} {k : Kd α} {H : AH} {v : Value} {xs : List α} (h : k.S H v xs) : ∃ cs, Src H k.size v xs.length cs ∧ k.Rs H cs xs := by
  rcases h with ⟨rfl, rfl⟩ | ⟨id, j, c, B, rfl, h2, h3, h4, h5, h6, h7⟩
  · exact ⟨[], .nil, .nil⟩
  · exact ⟨_, .sl h3 h4 h6, h7⟩

/-- The heap without one block. -/
def unB (H : AH) (id : Nat) : AH := match H[id]? with | some B => H.set id (kill B) | none => H
theorem unB_le (H : AH) (id : Nat) : HLe (unB H id) H := by
  intro i B h hd
  unfold unB at h
  split at h
  · rename_i C hC
    rw [List.getElem?_set] at h
    split at h
    · rename_i e
      subst e
      split at h
      · cases h; exact absurd rfl hd
      · cases h
    · exact h
  · exact h
theorem unB_prefix {H0 H : AH} (p : H0 <+: H) {id : Nat} (h : H0.length ≤ id) : HLe H0 (unB H id) := by
  intro i B e hd
  have hi : i < H0.length := by
    rcases Nat.lt_or_ge i H0.length with g | g
    · exact g
    · simp [List.getElem?_eq_none g] at e
  have := get_prefix p e
  unfold unB
  split
  · rw [List.getElem?_set_ne (by omega)]; exact this
  · exact this

/-- A block of one's own: all its cells are elements' or room for them. -/
structure Kd.OB {α : Type} (k : Kd α) (e lo : Nat) (H : AH) (id c : Nat) (B : Blk) (xs : List α) : Prop where
  lo : lo ≤ id
  len : xs.length ≤ c ∧ xs.length ≤ lim
  at_ : H[id]? = some B
  rw : B.st = .rw
  esz : B.esz = k.size
  el : B.el = e
  size : c * k.size = B.cells.length
  rs : k.Rs (unB H id) (B.cells.take (xs.length * k.size)) xs

/-- A slice of the call's own, from a block number on: it may be written and appended to. -/
def Kd.O {α : Type} (k : Kd α) (e lo : Nat) (H : AH) (v : Value) (xs : List α) : Prop :=
  (v = .slice none 0 0 ∧ xs = []) ∨ ∃ id c B, v = .slice (some ⟨id, 0, none⟩) xs.length c ∧ k.OB e lo H id c B xs

theorem Kd.O.S {α : Type} {k : Kd α} {e lo : Nat} {H : AH} {v : Value} {xs : List α} (h : k.O e lo H v xs) : k.S H v xs := by
  rcases h with h | ⟨id, c, B, rfl, h⟩
  · exact .inl h
  · refine .inr ⟨id, 0, c, B, rfl, h.len, h.at_, by rw [h.rw]; decide, h.esz, ?_, by simpa using h.rs.mono (unB_le _ _)⟩
    have := Nat.mul_le_mul_right k.size h.len.1
    have := h.size
    omega

theorem prefix_set {H0 H : AH} (p : H0 <+: H) {id : Nat} (B : Blk) (h : H0.length ≤ id) : H0 <+: H.set id B := by
  obtain ⟨r, rfl⟩ := p
  rw [List.set_append_right _ _ h]
  exact List.prefix_append _ _
theorem prefix_grown {H0 H : AH} (p : H0 <+: H) {a : Option Addr} (B : Blk) (h : ∀ q, a = some q → H0.length ≤ q.block) : H0 <+: grown H a B := by
  unfold grown
  split
  · exact p.trans (List.prefix_append _ _)
  · split
    · exact (prefix_set p _ (h _ rfl)).trans (List.prefix_append _ _)
    · exact p.trans (List.prefix_append _ _)

/-- What a call that has done nothing to old memory leaves. -/
theorem Step.below {ψ : Emb} {H : AH} {w w' : World} (hw : WR ψ H w) (hb : Below w.heap.size w w') : Step ψ H w ψ H w' := by
  have old : ∀ b o, w.heap[b]? = some o → w'.heap[b]? = some o := fun b o h => by rw [hb.block b (heap_lt h)]; exact h
  refine ⟨⟨?_, ?_, hw.inj, ?_, hw.fin⟩, fun _ _ e => e, fun _ _ => rfl, Nat.le_refl _, hb.size, hb.os, hb.tape, hb.output, fun b h _ => hb.block b h, fun _ _ a b => absurd b (by omega), fun _ h => .inr h⟩
  · intro id L h
    obtain ⟨c, el, fr, g1, g2⟩ := hw.blk id L h
    exact ⟨c, el, fr, old _ _ g1, g2⟩
  · intro id L B h h'
    obtain ⟨g1, g2⟩ := hw.cells id L B h h'
    refine ⟨g1, fun hd => ?_⟩
    obtain ⟨c, fr, k1, k2⟩ := g2 hd
    exact ⟨c, fr, old _ _ k1, k2⟩
  · intro g vs h
    obtain ⟨⟨c, el, fr, r1, r2⟩, r3⟩ := hw.fixed g vs h
    exact ⟨⟨c, el, fr, old _ _ r1, r2⟩, r3⟩

theorem VRs.plain_eq {ψ : Emb} : ∀ {us vs : List Value}, VRs ψ us vs → (∀ u ∈ us, PlainV u) → vs = us
  | _, _, .nil, _ => rfl
  | _, _, .cons a b, h => by rw [a.plain (h _ (by simp)), VRs.plain_eq b (fun u hu => h u (by simp [hu]))]

/-- A contract of the library: plain arguments, a plain answer, nothing done to old memory. -/
theorem AEval.of_below {P : Program} {k : FuncId} {args : List Value} {H : AH} {v : Value} (hp : ∀ u ∈ args, PlainV u) (hv : PlainV v)
    (h : ∀ w, (∀ g vs, Tabs.vals g = some vs → ∃ c el fr, w.heap[g]? = some (.cells c el fr) ∧ c.toList = vs) → Calls P k args.toArray w fun e w' => e = .returned v ∧ Below w.heap.size w w') : AEval P k args H v H := by
  refine ⟨Nat.le_refl _, fun ψ w args' hw ha _ => ?_⟩
  have : args' = args.toArray := by apply Array.toList_inj.1; rw [ha.plain_eq hp]
  subst this
  refine (h w fun g vs hg => (hw.fixed g vs hg).1).mono ?_
  rintro e w' ⟨rfl, hb⟩
  exact ⟨v, ψ, rfl, .of_plain hv, .below hw hb⟩

end Go.Proofs.YtaccaelocddakaaDoor
