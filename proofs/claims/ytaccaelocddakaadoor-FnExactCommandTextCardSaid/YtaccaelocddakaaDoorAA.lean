/- A part of the proof: no conditions. -/
import Derived.Test.YtaccaelocddakaaDoorY
namespace Go.Proofs.YtaccaelocddakaaDoor
open Go Go.RowKit
set_option linter.unusedVariables false
set_option linter.unusedSectionVars false
variable [Tabs]

/-! ### Things of one's own, kept apart -/

/-- What is said of some blocks. -/
structure Pr where
  A : AH → List Nat → Prop
  loc : ∀ {H H' : AH} {F : List Nat}, (∀ i ∈ F, H'[i]? = H[i]?) → A H F → A H' F
  lt : ∀ {H : AH} {F : List Nat}, A H F → ∀ i ∈ F, i < H.length

def Pr.emp0 : Pr := ⟨fun _ F => F = [], fun _ h => h, fun h => by simp [h]⟩

inductive Hold (H : AH) : List Pr → List (List Nat) → Prop
  | nil : Hold H [] []
  | cons {p : Pr} {ps : List Pr} {F : List Nat} {Fs : List (List Nat)} (h : p.A H F) (t : Hold H ps Fs) : Hold H (p :: ps) (F :: Fs)

theorem Hold.loc {H H' : AH} {ps : List Pr} {Fs : List (List Nat)} (h : Hold H ps Fs) : (∀ i ∈ Fs.flatten, H'[i]? = H[i]?) → Hold H' ps Fs := by
  induction h with
  | nil => intro _; exact .nil
  | cons h _ ih => intro p; simp only [List.flatten_cons, List.mem_append] at p; exact .cons (Pr.loc _ (fun i hi => p i (.inl hi)) h) (ih fun i hi => p i (.inr hi))
theorem Hold.lt {H : AH} {ps : List Pr} {Fs : List (List Nat)} (h : Hold H ps Fs) : ∀ i ∈ Fs.flatten, i < H.length := by
  induction h with
  | nil => intro i hi; simp at hi
  | cons h _ ih => intro i hi; simp only [List.flatten_cons, List.mem_append] at hi; exact hi.elim (Pr.lt _ h i) (ih i)

theorem Hold.focus {H : AH} {ps : List Pr} {Fs : List (List Nat)} (h : Hold H ps Fs) : ∀ {i : Nat} {p : Pr}, ps[i]? = some p → Fs.flatten.Nodup →
    ∃ F, p.A H F ∧ F.Nodup ∧ (∀ j ∈ F, j ∈ Fs.flatten) ∧ ∀ (H' : AH) (F' : List Nat) (q : Pr), Chg H H' F → q.A H' F' → F'.Nodup → (∀ j ∈ F', j ∈ F ∨ H.length ≤ j) →
      ∃ Fs', Hold H' (ps.set i q) Fs' ∧ Fs'.flatten.Nodup ∧ ∀ j ∈ Fs'.flatten, j ∈ Fs.flatten ∨ H.length ≤ j := by
  induction h with
  | nil => intro i p hi; simp at hi
  | cons h t ih =>
    rename_i p ps F Fs
    intro i q hi hn
    simp only [List.flatten_cons, List.nodup_append] at hn
    obtain ⟨n1, n2, n3⟩ := hn
    cases i with
    | zero =>
      simp at hi; subst hi
      refine ⟨F, h, n1, fun j hj => by simp [hj], fun H' F' q c hq nd hs => ⟨F' :: Fs, .cons hq (t.loc fun i hi => c.2 i (t.lt i hi) fun e => n3 i e i hi rfl), ?_, ?_⟩⟩
      · simp only [List.flatten_cons, List.nodup_append]
        refine ⟨nd, n2, fun a ha b hb e => ?_⟩
        subst e
        rcases hs a ha with g | g
        · exact n3 a g a hb rfl
        · have := t.lt a hb; omega
      · intro j hj
        simp only [List.flatten_cons, List.mem_append] at hj ⊢
        rcases hj with g | g
        · exact (hs j g).imp .inl id
        · exact .inl (.inr g)
    | succ i =>
      simp at hi
      obtain ⟨F0, a1, a2, a3, a4⟩ := ih hi n2
      refine ⟨F0, a1, a2, fun j hj => by simp only [List.flatten_cons, List.mem_append]; exact .inr (a3 j hj), fun H' F' q c hq nd hs => ?_⟩
      obtain ⟨Fs', b1, b2, b3⟩ := a4 H' F' q c hq nd hs
      have lf := Pr.lt _ h
      refine ⟨F :: Fs', .cons (Pr.loc _ (fun i hi => c.2 i (lf i hi) fun e => n3 i hi i (a3 i e) rfl) h) b1, ?_, ?_⟩
      · simp only [List.flatten_cons, List.nodup_append]
        refine ⟨n1, b2, fun a ha b hb e => ?_⟩
        subst e
        rcases b3 a hb with g | g
        · exact n3 a ha a g rfl
        · have := lf a ha; omega
      · intro j hj
        simp only [List.flatten_cons, List.mem_append] at hj ⊢
        rcases hj with g | g
        · exact .inl (.inl g)
        · exact (b3 j g).imp .inr id

/-- The things are there, apart from each other; each of their blocks is one of those that were handed in, or new; all other old memory is as it was. -/
def Sep (F0 : List Nat) (H0 H : AH) (ps : List Pr) : Prop := Chg H0 H F0 ∧ ∃ Fs, Hold H ps Fs ∧ Fs.flatten.Nodup ∧ ∀ i ∈ Fs.flatten, i ∈ F0 ∨ H0.length ≤ i

/-- The heap without some blocks. -/
def unF (H : AH) (F : List Nat) : AH := H.mapIdx fun i B => if i ∈ F then kill B else B
theorem Chg.hle {H H' : AH} {F : List Nat} (c : Chg H H' F) : HLe (unF H F) H' := by
  intro i B h hd
  unfold unF at h
  rw [List.getElem?_mapIdx] at h
  simp only [Option.map_eq_some_iff] at h
  obtain ⟨C, h1, h2⟩ := h
  split at h2
  · subst h2; exact absurd rfl hd
  · rename_i hn; subst h2; rw [c.2 i (lt_of_at h1) hn]; exact h1
theorem unF_nil {H : AH} : unF H [] = H := by
  unfold unF; apply List.ext_getElem?; intro i; rw [List.getElem?_mapIdx]; simp
theorem unF_le {H : AH} {F : List Nat} : HLe (unF H F) H := Chg.hle Chg.refl
theorem unF_prefix {H0 H : AH} {F : List Nat} (p : H0 <+: H) (h : ∀ i ∈ F, H0.length ≤ i) : HLe H0 (unF H F) := by
  intro i B e hd
  unfold unF
  rw [List.getElem?_mapIdx, get_prefix p e]
  have := lt_of_at e
  have hn : i ∉ F := fun hi => by have := h i hi; omega
  simp [hn]

theorem Sep.nil {H : AH} : Sep [] H H [] := ⟨Chg.refl, [], .nil, by simp, by simp⟩
theorem Sep.start {H : AH} {F : List Nat} {p : Pr} (h : p.A H F) (nd : F.Nodup) : Sep F H H [p] := ⟨Chg.refl, [F], .cons h .nil, by simpa using nd, by intro i hi; exact .inl (by simpa using hi)⟩
theorem Sep.pre {H0 H : AH} {ps : List Pr} (h : Sep [] H0 H ps) : H0 <+: H := h.1.prefix (List.prefix_refl _) (by simp)
theorem Sep.le {F0 : List Nat} {H0 H : AH} {ps : List Pr} (h : Sep F0 H0 H ps) : HLe (unF H0 F0) H := h.1.hle
theorem Sep.grow {F0 : List Nat} {H0 H H' : AH} {ps : List Pr} (h : Sep F0 H0 H ps) (p : H <+: H') : Sep F0 H0 H' ps := by
  obtain ⟨l, Fs, h1, h2, h3⟩ := h
  exact ⟨l.grow p, Fs, h1.loc fun i hi => eq_prefix p (h1.lt i hi), h2, h3⟩
theorem Sep.add {F0 : List Nat} {H0 H H' : AH} {ps : List Pr} {q : Pr} {F : List Nat} (h : Sep F0 H0 H ps) (p : H <+: H') (hq : q.A H' F) (nd : F.Nodup) (hl : ∀ j ∈ F, H.length ≤ j) : Sep F0 H0 H' (q :: ps) := by
  obtain ⟨l, Fs, h1, h2, h3⟩ := h
  refine ⟨l.grow p, F :: Fs, .cons hq (h1.loc fun i hi => eq_prefix p (h1.lt i hi)), ?_, ?_⟩
  · simp only [List.flatten_cons, List.nodup_append]
    refine ⟨nd, h2, fun a ha b hb e => ?_⟩
    subst e
    have := h1.lt a hb
    have := hl a ha
    omega
  · intro j hj
    simp only [List.flatten_cons, List.mem_append] at hj
    rcases hj with g | g
    · have := hl j g; have := l.1; exact .inr (by omega)
    · exact h3 j g
theorem Sep.focus {F0 : List Nat} {H0 H : AH} {ps : List Pr} {i : Nat} {p : Pr} (h : Sep F0 H0 H ps) (hi : ps[i]? = some p) :
    ∃ F, p.A H F ∧ F.Nodup ∧ (∀ j ∈ F, j ∈ F0 ∨ H0.length ≤ j) ∧ ∀ (H' : AH) (F' : List Nat) (q : Pr), Chg H H' F → q.A H' F' → F'.Nodup → (∀ j ∈ F', j ∈ F ∨ H.length ≤ j) → Sep F0 H0 H' (ps.set i q) := by
  obtain ⟨l, Fs, h1, h2, h3⟩ := h
  obtain ⟨F, a1, a2, a3, a4⟩ := h1.focus hi h2
  refine ⟨F, a1, a2, fun j hj => h3 j (a3 j hj), fun H' F' q c hq nd hs => ?_⟩
  obtain ⟨Fs', b1, b2, b3⟩ := a4 H' F' q c hq nd hs
  refine ⟨l.trans c fun j hj hlt => (h3 j (a3 j hj)).elim id (fun g => absurd g (by omega)), Fs', b1, b2, fun j hj => ?_⟩
  rcases b3 j hj with g | g
  · exact h3 j g
  · have := l.1; exact .inr (by omega)
/-- What one thing has come to: the contract of a function that changes it. -/
theorem Sep.done {F0 : List Nat} {H0 H : AH} {ps : List Pr} {i : Nat} {p : Pr} (h : Sep F0 H0 H ps) (hi : ps[i]? = some p) : Chg H0 H F0 ∧ ∃ F, p.A H F ∧ F.Nodup ∧ ∀ j ∈ F, j ∈ F0 ∨ H0.length ≤ j :=
  let ⟨F, a1, a2, a3, _⟩ := h.focus hi; ⟨h.1, F, a1, a2, a3⟩
theorem Sep.del {F0 : List Nat} {H0 H : AH} {ps : List Pr} (h : Sep F0 H0 H ps) (i : Nat) : Sep F0 H0 H (ps.eraseIdx i) := by
  obtain ⟨l, Fs, h1, h2, h3⟩ := h
  have gen : ∀ {ps : List Pr} {Fs : List (List Nat)}, Hold H ps Fs → ∀ i, Hold H (ps.eraseIdx i) (Fs.eraseIdx i) := by
    intro ps Fs h
    induction h with
    | nil => intro i; exact .nil
    | cons h t ih => intro i; cases i with
      | zero => exact t
      | succ i => exact .cons h (ih i)
  have sub : ∀ (Fs : List (List Nat)) i, (Fs.eraseIdx i).flatten.Sublist Fs.flatten := by
    intro Fs
    induction Fs with
    | nil => intro i; exact List.Sublist.refl _
    | cons F Fs ih => intro i; cases i with
      | zero => exact List.sublist_append_right _ _
      | succ i => exact (List.Sublist.refl F).append (ih i)
  exact ⟨l, _, gen h1 i, h2.sublist (sub Fs i), fun j hj => h3 j ((sub Fs i).subset hj)⟩
/-- One thing stands away from another one's blocks. -/
theorem Sep.apart {F0 : List Nat} {H0 H : AH} {ps : List Pr} {i : Nat} {p : Pr} (h : Sep F0 H0 H ps) (hi : ps[i]? = some p) :
    ∃ F, p.A H F ∧ F.Nodup ∧ (∀ j ∈ F, j ∈ F0 ∨ H0.length ≤ j) ∧ (∀ (H' : AH) (F' : List Nat) (q : Pr), Chg H H' F → q.A H' F' → F'.Nodup → (∀ j ∈ F', j ∈ F ∨ H.length ≤ j) → Sep F0 H0 H' (ps.set i q)) ∧
      (∀ (k : Nat) (q : Pr), k ≠ i → ps[k]? = some q → ∃ G, q.A (unF H F) G) := by
  obtain ⟨F, a1, a2, a3, a4⟩ := h.focus hi
  refine ⟨F, a1, a2, a3, a4, fun k q hk hq => ?_⟩
  -- put the same thing back over the heap that lacks F
  have c : Chg H (unF H F) F := ⟨by simp [unF], fun j hj hn => by unfold unF; rw [List.getElem?_mapIdx]; simp [hn]⟩
  have s := a4 (unF H F) [] Pr.emp0 c rfl (by simp) (by simp)
  obtain ⟨G, g, _⟩ := s.focus (i := k) (p := q) (by rw [List.getElem?_set_ne (fun e => hk e.symm)]; exact hq)
  exact ⟨G, g⟩

/-- Two things as one. -/
def Pr.star (p q : Pr) : Pr := ⟨fun H F => ∃ F1 F2, F = F1 ++ F2 ∧ p.A H F1 ∧ q.A H F2,
  fun g ⟨F1, F2, e, a, b⟩ => ⟨F1, F2, e, p.loc (fun i hi => g i (by rw [e]; exact List.mem_append_left _ hi)) a, q.loc (fun i hi => g i (by rw [e]; exact List.mem_append_right _ hi)) b⟩,
  fun ⟨F1, F2, e, a, b⟩ i hi => by rw [e] at hi; exact (List.mem_append.1 hi).elim (p.lt a i) (q.lt b i)⟩

/-- One block. -/
def pBox (id t n : Nat) (cs : List Value) : Pr := ⟨fun H F => F = [id] ∧ H[id]? = some ⟨t, n, cs, .rw⟩, fun g ⟨e, h⟩ => ⟨e, by rw [g id (by rw [e]; simp)]; exact h⟩, fun ⟨e, h⟩ i hi => by rw [e] at hi; rw [List.mem_singleton.1 hi]; exact lt_of_at h⟩
/-- A datum. -/
def pVal {α : Type} (k : Kd α) (us : List Value) (x : α) : Pr := ⟨fun H F => k.W H us x F, fun g h => k.wloc g h, fun h => k.wlt h⟩
/-- A slice. -/
def pOwn {α : Type} (k : Kd α) (e : Nat) (v : Value) (xs : List α) : Pr :=
  ⟨fun H F => (v = .slice none 0 0 ∧ xs = [] ∧ F = []) ∨ ∃ id c B F', F = id :: F' ∧ v = .slice (some ⟨id, 0, none⟩) xs.length c ∧ (xs.length ≤ c ∧ xs.length ≤ lim) ∧ H[id]? = some B ∧ B.st = .rw ∧ B.esz = k.size ∧ B.el = e ∧ B.cells.length = c * k.size ∧ k.Ws H (B.cells.take (xs.length * k.size)) xs F',
   fun g h => by
    rcases h with h | ⟨id, c, B, F', rfl, h2, h3, h4, h5, h6, h7, h8, h9⟩
    · exact .inl h
    · exact .inr ⟨id, c, B, F', rfl, h2, h3, by rw [g id (by simp)]; exact h4, h5, h6, h7, h8, h9.loc fun i hi => g i (by simp [hi])⟩,
   fun h => by
    rcases h with ⟨_, _, rfl⟩ | ⟨id, c, B, F', rfl, h2, h3, h4, h5, h6, h7, h8, h9⟩
    · intro i hi; cases hi
    · intro i hi
      rcases List.mem_cons.1 hi with rfl | hi
      · exact lt_of_at h4
      · exact h9.lt i hi⟩

theorem pOwn_WS {α : Type} {k : Kd α} {e : Nat} {v : Value} {xs : List α} {H : AH} {F : List Nat} (h : (pOwn k e v xs).A H F) : k.WS H v xs F := by
  rcases h with h | ⟨id, c, B, F', rfl, h2, h3, h4, h5, h6, h7, h8, h9⟩
  · exact .inl h
  · refine .inr ⟨id, 0, c, B, F', rfl, h2, h3, h4, h5, h6, ?_, by simpa using h9⟩
    rw [h8, Nat.zero_add]; exact Nat.mul_le_mul_right _ h3.1
section
variable {F0 : List Nat} {H0 H : AH} {ps : List Pr}
theorem Sep.S {α : Type} {k : Kd α} {e i : Nat} {v : Value} {xs : List α} (h : Sep F0 H0 H ps) (hi : ps[i]? = some (pOwn k e v xs)) : k.S H v xs := by
  obtain ⟨F, a, _⟩ := h.focus hi
  exact (pOwn_WS a).S
theorem Sep.R {α : Type} {k : Kd α} {i : Nat} {us : List Value} {x : α} (h : Sep F0 H0 H ps) (hi : ps[i]? = some (pVal k us x)) : k.R H us x := by
  obtain ⟨F, a, _⟩ := h.focus hi
  exact k.wr a
theorem Sep.VS {α : Type} {k : Kd α} {i : Nat} {v : Value} {xs : List α} (h : Sep F0 H0 H ps) (hi : ps[i]? = some (pVal k.slice [v] xs)) : k.S H v xs := by
  obtain ⟨F, a, _⟩ := h.focus hi
  exact (slW a).S
theorem Sep.at_ {id t n i : Nat} {cs : List Value} (h : Sep F0 H0 H ps) (hi : ps[i]? = some (pBox id t n cs)) : H[id]? = some ⟨t, n, cs, .rw⟩ := by
  obtain ⟨F, a, _⟩ := h.focus hi
  exact a.2
/-- An answer all of whose blocks are new. -/
def FreshP (q : Pr) (H H' : AH) : Prop := H <+: H' ∧ ∃ F, q.A H' F ∧ F.Nodup ∧ ∀ i ∈ F, H.length ≤ i
theorem Fresh.P {α : Type} {k : Kd α} {us : List Value} {x : α} {H H' : AH} (f : Fresh k H H' us x) : FreshP (pVal k us x) H H' := f
theorem FreshP.V {α : Type} {k : Kd α} {us : List Value} {x : α} {H H' : AH} (f : FreshP (pVal k us x) H H') : Fresh k H H' us x := f
theorem FreshP.low {q : Pr} {H1 H2 H3 : AH} (p : H1 <+: H2) (f : FreshP q H2 H3) : FreshP q H1 H3 :=
  ⟨p.trans f.1, let ⟨F, a, b, c⟩ := f.2; ⟨F, a, b, fun i hi => Nat.le_trans p.length_le (c i hi)⟩⟩
theorem FreshP.imp {q q' : Pr} {H H' : AH} (f : FreshP q H H') (h : ∀ F, q.A H' F → q'.A H' F) : FreshP q' H H' := ⟨f.1, let ⟨F, a, b⟩ := f.2; ⟨F, h F a, b⟩⟩
theorem Sep.fresh {q : Pr} {i : Nat} (h : Sep [] H0 H ps) (hi : ps[i]? = some q) : FreshP q H0 H :=
  let ⟨F, a1, a2, a3, _⟩ := h.focus hi; ⟨h.pre, F, a1, a2, fun j hj => (a3 j hj).elim (fun g => by simp at g) id⟩
theorem FreshP.slice {α : Type} {k : Kd α} {e : Nat} {v : Value} {xs : List α} {H H' : AH} (f : FreshP (pOwn k e v xs) H H') : Fresh k.slice H H' [v] xs :=
  FreshP.imp (q' := pVal k.slice [v] xs) f fun F a => ⟨v, rfl, pOwn_WS a⟩
theorem Sep.addP {q : Pr} {H' : AH} (h : Sep F0 H0 H ps) (f : FreshP q H H') : Sep F0 H0 H' (q :: ps) := by
  obtain ⟨p, F, w, nd, hl⟩ := f
  exact h.add p w nd hl
/-- Two things made one. -/
theorem Sep.join {p q : Pr} (h : Sep F0 H0 H (p :: q :: ps)) : Sep F0 H0 H (p.star q :: ps) := by
  obtain ⟨l, Fs, h1, h2, h3⟩ := h
  cases h1 with
  | cons a t => cases t with
    | cons b t =>
      refine ⟨l, _, .cons ⟨_, _, rfl, a, b⟩ t, ?_, ?_⟩
      · simpa using h2
      · simpa using h3
theorem Sep.split {p q : Pr} (h : Sep F0 H0 H (p.star q :: ps)) : Sep F0 H0 H (p :: q :: ps) := by
  obtain ⟨l, Fs, h1, h2, h3⟩ := h
  cases h1 with
  | cons a t =>
    obtain ⟨F1, F2, rfl, a, b⟩ := a
    refine ⟨l, _, .cons a (.cons b t), ?_, ?_⟩
    · simpa using h2
    · simpa using h3
theorem Sep.addB {id t n : Nat} {cs : List Value} {H' : AH} (h : Sep F0 H0 H ps) (p : H <+: H') (hl : H.length ≤ id) (a : H'[id]? = some ⟨t, n, cs, .rw⟩) : Sep F0 H0 H' (pBox id t n cs :: ps) :=
  Sep.add (q := pBox id t n cs) (F := [id]) h p ⟨rfl, a⟩ (by simp) (by simpa using hl)
/-- A block that is made of a slice's elements. -/
theorem Sep.addO {α : Type} {k : Kd α} (hk : k.Flat) {id e : Nat} {cs : List Value} {xs : List α} {n : Nat} {H' : AH} (h : Sep F0 H0 H ps) (p : H <+: H') (hl : H.length ≤ id) (a : H'[id]? = some ⟨e, k.size, cs, .rw⟩) (hr : k.Rs H' cs xs) (hn : xs.length = n) (hlim : n ≤ lim) :
    Sep F0 H0 H' (pOwn k e (.slice (some ⟨id, 0, none⟩) n n) xs :: ps) := by
  subst hn
  refine Sep.add (q := pOwn k e (.slice (some ⟨id, 0, none⟩) xs.length xs.length) xs) (F := [id]) h p (.inr ⟨id, xs.length, _, [], rfl, rfl, ⟨Nat.le_refl _, hlim⟩, a, rfl, rfl, rfl, hr.len, ?_⟩) (by simp) (by simpa using hl)
  have := hr.len
  simp only
  rw [← this, List.take_length]
  exact hk.ws hr
theorem Sep.addE {α : Type} {k : Kd α} {id e : Nat} {cs : List Value} {H' : AH} (h : Sep F0 H0 H ps) (p : H <+: H') (hl : H.length ≤ id) (a : H'[id]? = some ⟨e, k.size, cs, .rw⟩) (hcs : cs = []) :
    Sep F0 H0 H' (pOwn k e (.slice (some ⟨id, 0, none⟩) 0 0) ([] : List α) :: ps) := by
  subst hcs
  exact h.add (q := pOwn k e (.slice (some ⟨id, 0, none⟩) 0 0) ([] : List α)) (F := [id]) p (.inr ⟨id, 0, _, [], rfl, rfl, ⟨Nat.le_refl _, Nat.zero_le _⟩, a, rfl, rfl, rfl, by simp, by simp; exact .nil⟩) (by simp) (by simpa using hl)
theorem Sep.addNil {α : Type} {k : Kd α} {e : Nat} (h : Sep F0 H0 H ps) : Sep F0 H0 H (pOwn k e (.slice none 0 0) ([] : List α) :: ps) :=
  h.add (q := pOwn k e (.slice none 0 0) ([] : List α)) (F := []) (List.prefix_refl _) (.inl ⟨rfl, rfl, rfl⟩) (by simp) (by simp)
end

section
variable {P : Program} {ops : Array Oper} {K : GF → AH → Prop} {rest : List Oper} {sps : List Bool} {G : GF} {H H0 : AH} {g : Bool} {dst : Option Nat} {ty : TypeId} {pos : String} {aft : Array Edge} {gd : Option (Nat × Bool)}

/-- Plain elements are put behind a slice of one's own. -/
theorem RVs.appendO {α : Type} {k : Kd α} (hk : k.Flat) {t u e e2 bytes i : Nat} {x y : Operand} {v yv : Value} {xs ys : List α} {ps : List Pr} {F0 : List Nat} (hs : Sep F0 H0 H ps) (hi : ps[i]? = some (pOwn k e v xs)) (hx : G.raw x = some v) (hy : G.raw y = some yv)
    (ht : elemOf P t = some (e, k.size, bytes)) (he : elOk P e k.size bytes = true) (hu : P.underlying u = some (.slice e2)) (hg : g = true) (hsp : sps.headD false = true) (hd : dstOk G ⟨dst, .call ⟨.builtin .append, #[x, y], #[t, u]⟩, ty, pos, aft, gd⟩ = true) (hc : G.cond x = true ∧ G.cond y = true)
    (hS : k.S H yv ys) (hsmall : (xs.length + ys.length) * bytes ≤ 70368744177664 ∧ xs.length + ys.length ≤ lim)
    (kk : ∀ (a' : Option Addr) (c' : Nat) (H' : AH), (xs ++ ys).length ≤ c' → Sep F0 H0 H' (ps.set i (pOwn k e (.slice a' (xs ++ ys).length c') (xs ++ ys))) → VC P ops K rest sps.tail (G.put dst (true, .slice a' (xs ++ ys).length c')) H') :
    RVs P ops K ⟨dst, .call ⟨.builtin .append, #[x, y], #[t, u]⟩, ty, pos, aft, gd⟩ rest sps G H g := by
  obtain ⟨F, a1, a2, a3, a4⟩ := hs.focus hi
  obtain ⟨cs, src, rs⟩ := hS.src
  have hlen : (xs ++ ys).length = xs.length + ys.length := List.length_append
  have hrl := rs.len
  rcases Nat.eq_zero_or_pos ys.length with h0 | h0
  · obtain rfl : ys = [] := List.eq_nil_of_length_eq_zero h0
    rw [List.append_nil] at kk
    have hform : ∃ a c, v = .slice a xs.length c ∧ xs.length ≤ c := (pOwn_WS a1).S.form
    obtain ⟨a, c, rfl, hcc⟩ := hform
    refine RVs.append_zero hx hy ht he hu (.inl ⟨_, rfl⟩) hg hd hc src (kk a c H hcc ?_)
    exact a4 H F (pOwn k e (.slice a xs.length c) xs) Chg.refl a1 a2 fun j hj => .inl hj
  · rcases a1 with ⟨rfl, rfl, rfl⟩ | ⟨id, c, B, F', rfl, rfl, h3, h4, h5, h6, h7, h8, h9⟩
    · refine RVs.append_grow hx hy ht he hu (.inl ⟨_, rfl⟩) hg (.inl hsp) hd hc src .nil (fun q hq => by cases hq) rs.oc (by simpa using h0) (by simpa using hsmall.1) ?_
      have hp : H <+: grown H none ⟨e, k.size, [] ++ cs, .rw⟩ := List.prefix_append _ _
      have := kk (some ⟨H.length, 0, none⟩) (0 + ys.length) (grown H none ⟨e, k.size, [] ++ cs, .rw⟩) (by simp) ?_
      · simpa using this
      · refine a4 _ [H.length] (pOwn k e (.slice (some ⟨H.length, 0, none⟩) ([] ++ ys).length (0 + ys.length)) ([] ++ ys)) (Chg.of_prefix hp) (.inr ⟨H.length, 0 + ys.length, ⟨e, k.size, [] ++ cs, .rw⟩, [], rfl, by simp, ⟨by simp, by simpa using hsmall.2⟩, by simp [grown], rfl, rfl, rfl, by simpa using hrl, ?_⟩) (by simp) (by intro j hj; simp at hj; omega)
        simp only [List.nil_append]
        rw [← hrl, List.take_length]; exact hk.ws rs
    · obtain rfl := hk.wsn h9
      have hw9 := h9.rs
      rcases Nat.lt_or_ge c (xs.length + ys.length) with hlt | hge
      · -- grows
        have hb : Src H k.size (.slice (some ⟨id, 0, none⟩) xs.length c) xs.length ((B.cells.drop 0).take (xs.length * k.size)) := .sl h4 (by rw [h5]; decide) (by rw [h8, Nat.zero_add]; exact Nat.mul_le_mul_right _ h3.1)
        refine RVs.append_grow hx hy ht he hu (.inl ⟨_, rfl⟩) hg (.inl hsp) hd hc src hb (fun q hq => by cases hq; exact ⟨B, h4, h5, h7, h6⟩) rs.oc hlt hsmall.1 ?_
        have hgr : ∀ B', grown H (some ⟨id, 0, none⟩) B' = H.set id (kill B) ++ [B'] := by intro B'; unfold grown; simp only [h4]
        rw [hgr]
        have hch : Chg H (H.set id (kill B) ++ [⟨e, k.size, (B.cells.drop 0).take (xs.length * k.size) ++ cs, .rw⟩]) [id] := ⟨by simp, fun i hi hn => by
          rw [List.getElem?_append_left (by simpa using hi), List.getElem?_set_ne (by simp at hn; omega)]⟩
        have := kk (some ⟨H.length, 0, none⟩) (xs.length + ys.length) (H.set id (kill B) ++ [⟨e, k.size, (B.cells.drop 0).take (xs.length * k.size) ++ cs, .rw⟩]) (by simp) ?_
        · rw [hlen] at this; exact this
        · refine a4 _ [H.length] (pOwn k e (.slice (some ⟨H.length, 0, none⟩) (xs ++ ys).length (xs.length + ys.length)) (xs ++ ys)) hch (.inr ⟨H.length, xs.length + ys.length, ⟨e, k.size, (B.cells.drop 0).take (xs.length * k.size) ++ cs, .rw⟩, [], rfl, by simp, ⟨by simp, by simpa using hsmall.2⟩, ?_, rfl, rfl, rfl, ?_, ?_⟩) (by simp) (by intro j hj; simp at hj; omega)
          · rw [List.getElem?_append_right (by simp)]; simp
          · simp only [List.drop_zero, List.length_append, hrl, Nat.add_mul]
            rw [hw9.len]
          · have hcomb := hw9.append rs
            have e1 : (B.cells.take (xs.length * k.size) ++ cs).length = (xs ++ ys).length * k.size := hcomb.len
            simp only [List.drop_zero]
            rw [← e1, List.take_length]
            exact hk.ws hcomb
      · -- in place
        have hmul : xs.length * k.size + ys.length * k.size ≤ c * k.size := by rw [← Nat.add_mul]; exact Nat.mul_le_mul_right _ hge
        refine RVs.append_in hx hy ht he hu (.inl ⟨_, rfl⟩) hg hsp hd hc src h4 h5 (by rw [h8]; omega) rs.oc hge (by omega) ?_
        have up := Upd.of_set h4 ({ B with cells := over B.cells (0 + xs.length * k.size) cs } : Blk)
        have hch : Chg H (H.set id ({ B with cells := over B.cells (0 + xs.length * k.size) cs } : Blk)) [id] := Chg.refl.upd up (by simp)
        have := kk (some ⟨id, 0, none⟩) c (H.set id ({ B with cells := over B.cells (0 + xs.length * k.size) cs } : Blk)) (by rw [hlen]; exact hge) ?_
        · rw [hlen] at this; exact this
        · refine a4 _ [id] (pOwn k e (.slice (some ⟨id, 0, none⟩) (xs ++ ys).length c) (xs ++ ys)) hch (.inr ⟨id, c, _, [], rfl, by simp, ⟨by rw [hlen]; exact hge, by rw [hlen]; exact hsmall.2⟩, up.at_, h5, h6, h7, by simp only; rw [over_length]; exact h8, ?_⟩) (by simp) (by intro j hj; exact .inl hj)
          simp only [Nat.zero_add]
          rw [hlen, Nat.add_mul, ← hrl, over_take (by rw [hrl, h8]; exact hmul)]
          exact hk.ws (hw9.append rs)

/-- A cell of a block of one's own is written. -/
theorem RVs.storeB {t t0 n j i id : Nat} {x y : Operand} {cs : List Value} {v : Value} {ps : List Pr} {F0 : List Nat} (hs : Sep F0 H0 H ps) (hi : ps[i]? = some (pBox id t0 n cs)) (hx : G.raw x = some (.pointer (some ⟨id, j, none⟩))) (hy : G.raw y = some v) (ht : tyOf P t = some (1, false)) (hg : g = true) (hsp : sps.headD false = true)
    (hd : dstOk G ⟨dst, .store t x y, ty, pos, aft, gd⟩ = true) (hc : G.cond x = true ∧ G.cond y = true) (hj : j < cs.length) (hv : oneCell v = true)
    (kk : ∀ H', Sep F0 H0 H' (ps.set i (pBox id t0 n (cs.set j v))) → VC P ops K rest sps.tail (G.put dst (true, undef)) H') : RVs P ops K ⟨dst, .store t x y, ty, pos, aft, gd⟩ rest sps G H g := by
  obtain ⟨F, ⟨rfl, a⟩, a2, a3, a4⟩ := hs.focus hi
  refine RVs.store1 hx hy ht hg hsp hd hc a rfl hj hv fun H' up => kk H' ?_
  exact a4 H' [id] (pBox id t0 n (cs.set j v)) (Chg.refl.upd up (by simp)) ⟨rfl, up.at_⟩ a2 fun j hj => .inl hj
/-- A struct is written into a block of one's own. -/
theorem RVs.storeBN {t t0 n m j i id : Nat} {x y : Operand} {cs : List Value} {vs : Array Value} {ps : List Pr} {F0 : List Nat} (hs : Sep F0 H0 H ps) (hi : ps[i]? = some (pBox id t0 n cs)) (hx : G.raw x = some (.pointer (some ⟨id, j, none⟩))) (hy : G.raw y = some (.agg vs)) (ht : tyOf P t = some (m, true)) (hg : g = true) (hsp : sps.headD false = true)
    (hd : dstOk G ⟨dst, .store t x y, ty, pos, aft, gd⟩ = true) (hc : G.cond x = true ∧ G.cond y = true) (hm : vs.size = m) (hj : j + m ≤ cs.length) (hv : vs.toList.all oneCell = true)
    (kk : ∀ H', Sep F0 H0 H' (ps.set i (pBox id t0 n (over cs j vs.toList))) → VC P ops K rest sps.tail (G.put dst (true, undef)) H') : RVs P ops K ⟨dst, .store t x y, ty, pos, aft, gd⟩ rest sps G H g := by
  obtain ⟨F, ⟨rfl, a⟩, a2, a3, a4⟩ := hs.focus hi
  refine RVs.storeN hx hy ht hg hsp hd hc a rfl hm hj hv fun H' up => kk H' ?_
  exact a4 H' [id] (pBox id t0 n (over cs j vs.toList)) (Chg.refl.upd up (by simp)) ⟨rfl, up.at_⟩ a2 fun j hj => .inl hj

theorem pOwn_take {α : Type} {k : Kd α} (hk : k.Flat) {e n : Nat} {id c : Nat} {xs : List α} {H : AH} {F : List Nat} (h : (pOwn k e (.slice (some ⟨id, 0, none⟩) xs.length c) xs).A H F) (hn : n ≤ xs.length) :
    (pOwn k e (.slice (some ⟨id, 0, none⟩) (xs.take n).length c) (xs.take n)).A H F := by
  rcases h with ⟨h, _⟩ | ⟨id', c', B, F', rfl, h2, h3, h4, h5, h6, h7, h8, h9⟩
  · cases h
  · cases h2
    obtain rfl := hk.wsn h9
    have hl : (xs.take n).length = n := by simp; omega
    refine .inr ⟨id, c, B, [], rfl, rfl, ⟨by omega, by omega⟩, h4, h5, h6, h7, h8, hk.ws (H := H) ?_⟩
    have hmul := Nat.mul_le_mul_right k.size hn
    rw [hl, show B.cells.take (n * k.size) = (B.cells.take (xs.length * k.size)).take (n * k.size) by rw [List.take_take, Nat.min_eq_left hmul]]
    have gen : ∀ {us : List Value} {xs : List α} (n : Nat), k.Rs H us xs → k.Rs H (us.take (n * k.size)) (xs.take n) := by
      intro us xs n h
      induction h generalizing n with
      | nil => simp; exact .nil
      | cons h t ih =>
        cases n with
        | zero => simp; exact .nil
        | succ n =>
          have e := k.len h
          rw [List.take_succ_cons, Nat.succ_mul, Nat.add_comm, List.take_append, e, Nat.add_sub_cancel_left, List.take_of_length_le (by omega)]
          exact .cons h (ih n)
    exact gen n h9.rs
end
end Go.Proofs.YtaccaelocddakaaDoor
