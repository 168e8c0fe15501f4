/- A part of the proof: no conditions. -/
import Derived.Test.YtaccaelocddakaaDoorH
namespace Go.Proofs.YtaccaelocddakaaDoor
open Go Go.RowKit
set_option linter.unusedVariables false
set_option linter.unusedSectionVars false
variable [Tabs]

/-- Inside a region a slot's value is known under a condition. -/
structure GF where
  n : Nat
  l : List (Nat × Bool × Value)
def GF.get (G : GF) (t : Nat) : Option (Bool × Value) := G.l.lookup t
def GF.put (G : GF) (d : Option Nat) (e : Bool × Value) : GF :=
  match d with
  | none => G
  | some t => ⟨G.n, (t, e) :: G.l⟩
def Rel (ψ : Emb) (e : Bool × Value) (u : Option Value) : Prop := if e.1 = true then ∃ v', u = some v' ∧ VR ψ e.2 v' else u = some undef
def GR (ψ : Emb) (G : GF) (a : Act) : Prop := a.defers = [] ∧ G.n ≤ a.tmps.size ∧ ∀ t e, G.get t = some e → Rel ψ e a.tmps[t]?

theorem Rel.mono {ψ ψ' : Emb} (h : ψ.le ψ') {e : Bool × Value} {u : Option Value} (k : Rel ψ e u) : Rel ψ' e u := by
  unfold Rel at *
  split at k
  · rw [if_pos ‹_›]; obtain ⟨v', a, b⟩ := k; exact ⟨v', a, b.mono h⟩
  · rw [if_neg ‹_›]; exact k

/-- An operand's value, inside a region. -/
def GF.ev (G : GF) : Operand → Option Value
  | .tmp t => match G.get t with
    | some (true, v) => some v
    | _ => none
  | .const v => if plainCell v then some v else none
  | .func f => some (.func (.func f) #[] #[])
  | .global _ => none

theorem ev_const {ψ : Emb} {v u : Value} (h : (if plainCell v then some v else none) = some u) : VR ψ u v := by
  split at h
  · rename_i hp
    simp only [Option.some.injEq] at h; subst h; exact .refl_plain hp
  · cases h

/-- The operand's value that the condition makes known, tells the machine's. -/
def ORel (ψ : Emb) (ρ : Operand → Option Value) (a : Act) (o : Oper) : Prop := ∀ x ∈ o.op.operands, ∀ u, ρ x = some u → VR ψ u (a.eval x)

def guardVal (ops : Array Oper) (G : GF) (o : Oper) : Option Bool :=
  match o.guard with
  | none => some true
  | some (j, want) => match (ops[j]?).bind (·.dst) with
    | none => none
    | some t => match G.get t with
      | some (gj, .bool b) => some (gj && (b == want))
      | _ => none

/-- Operations whose value hangs on their operands alone. -/
def inertOp : Op → Bool
  | .move _ | .assign _ | .pick .. | .build .. | .field .. | .fieldAddr .. | .binOp .. | .unOp .. | .makeFunc .. | .extract .. | .indexAddr .. | .index .. | .nilCheck _ => true
  | .call { callee := .builtin b, .. } => (match b with | .len | .min | .max => true | _ => false)
  | _ => false

/-- One operation's part of a region. -/
def Rg (P : Program) (sp : Bool) (o : Oper) (G : GF) (H : AH) (g : Bool) (v : Value) (H' : AH) : Prop :=
  (g = true → OEval P o G.ev H v H' ∧ (sp = true ∨ H <+: H') ∧ (inertOp o.op = true → H' = H ∧ OPure P o G.ev v)) ∧ (g = false → H' = H) ∧ (∀ d, o.dst = some d → d < G.n)

def regVC (P : Program) (ops : Array Oper) : List Oper → List Bool → GF → AH → (GF → AH → Prop) → Prop
  | [], _, G, H, K => K G H
  | o :: rest, sps, G, H, K => ∃ g v H', guardVal ops G o = some g ∧ Rg P (sps.headD false) o G H g v H' ∧ regVC P ops rest sps.tail (G.put o.dst (g, v)) H' K

theorem GR.put {ψ : Emb} {G : GF} {a : Act} (h : GR ψ G a) {d : Option Nat} {e : Bool × Value} {v' : Value} (hd : ∀ t, d = some t → t < G.n) (hr : Rel ψ e (some v')) : GR ψ (G.put d e) (a.put d v') := by
  cases d with
  | none => exact h
  | some t =>
    have ht := hd t rfl
    have hs := h.2.1
    refine ⟨h.1, by simpa [GF.put, Act.put] using hs, fun s f hf => ?_⟩
    simp only [GF.put, GF.get, List.lookup_cons] at hf
    by_cases hst : s = t
    · subst hst
      simp at hf; subst hf
      have : (a.put (some s) v').tmps[s]? = some v' := by simp only [Act.put]; rw [Array.getElem?_setIfInBounds_self_of_lt (by omega)]
      rw [this]; exact hr
    · have : (s == t) = false := by simpa using hst
      rw [this] at hf
      have h2 : (a.put (some t) v').tmps[s]? = a.tmps[s]? := by simp only [Act.put]; rw [Array.getElem?_setIfInBounds_ne (fun e => hst e.symm)]
      rw [h2]; exact h.2.2 s f hf

theorem GR.mono {ψ ψ' : Emb} {G : GF} {a : Act} (h : ψ.le ψ') (k : GR ψ G a) : GR ψ' G a := ⟨k.1, k.2.1, fun t e he => (k.2.2 t e he).mono h⟩

theorem Rel.ev {ψ : Emb} {e : Bool × Value} {u : Option Value} {v : Value} (h : Rel ψ e u) (h1 : e.1 = true) (h2 : e.2 = v) : ∃ v', u = some v' ∧ VR ψ v v' := by
  unfold Rel at h; rw [if_pos h1] at h; subst h2; exact h

theorem ev_tmp {G : GF} {t : Nat} {u : Value} (h : G.ev (.tmp t) = some u) : G.get t = some (true, u) := by
  simp only [GF.ev] at h
  split at h
  · rename_i v hv; simp only [Option.some.injEq] at h; subst h; exact hv
  · cases h

theorem GR.orel {ψ : Emb} {G : GF} {a : Act} (h : GR ψ G a) (o : Oper) : ORel ψ G.ev a o := by
  intro x _ u hu
  cases x with
  | tmp t =>
    obtain ⟨v', h1, h2⟩ := (h.2.2 t _ (ev_tmp hu)).ev rfl rfl
    simpa [Act.eval, h1] using h2
  | const v => exact ev_const hu
  | func f => simp [GF.ev] at hu; subst hu; exact .func .nil .nil
  | global g => simp [GF.ev] at hu

theorem wanted_of {ψ : Emb} {ops : Array Oper} {o : Oper} {a : Act} {j : Nat} {want gj b : Bool} {t : Nat} (hg : o.guard = some (j, want)) (hd : (ops[j]?).bind (·.dst) = some t) (hr : Rel ψ (gj, .bool b) a.tmps[t]?) :
    Region.wanted o (yielded ops a.tmps) = (gj && (b == want)) := by
  unfold Region.wanted yielded
  rw [hg]
  simp only [hd, Option.bind_some]
  unfold Rel at hr
  cases gj with
  | true =>
    simp only [if_true] at hr
    obtain ⟨v', h1, h2⟩ := hr
    rw [h1, h2.bool_inv]
    cases b <;> cases want <;> rfl
  | false =>
    simp only [Bool.false_eq_true, if_false] at hr
    rw [hr]; rfl

theorem GR.wanted {ψ : Emb} {G : GF} {a : Act} (h : GR ψ G a) {ops : Array Oper} {o : Oper} {g : Bool} (hg : guardVal ops G o = some g) : Region.wanted o (yielded ops a.tmps) = g := by
  unfold guardVal at hg
  cases hgd : o.guard with
  | none => rw [hgd] at hg; simp at hg; subst hg; simp [Region.wanted, hgd]
  | some jw =>
    obtain ⟨j, want⟩ := jw
    rw [hgd] at hg
    simp only at hg
    cases hd : (ops[j]?).bind (·.dst) with
    | none => rw [hd] at hg; cases hg
    | some t =>
      rw [hd] at hg
      simp only at hg
      split at hg
      · rename_i gj b hG
        simp only [Option.some.injEq] at hg
        rw [wanted_of hgd hd (h.2.2 t _ hG), hg]
      · cases hg

/-- A region from an operation on, in the order of the text. -/
def SEval (P : Program) (ops : Array Oper) (l : List Nat) (G : GF) (H : AH) (G' : GF) (H' : AH) : Prop :=
  H.length ≤ H'.length ∧ ∀ (ψ : Emb) (w : World) (a : Act), WR ψ H w → GR ψ G a → (∀ id, H.length ≤ id → id < H'.length → ψ id = none) → ∀ (Q : Exit → Act → World → Prop),
    (∀ ψ' a' w', GR ψ' G' a' → Step ψ H w ψ' H' w' → Q .normal a' w') → wpOps P ops Q l a w

theorem regVC_seq {P : Program} {ops : Array Oper} {K : GF → AH → Prop} : ∀ (rest : List Oper) (i : Nat) (sps : List Bool) (G : GF) (H : AH), (∀ k, rest[k]? = ops[i + k]?) → regVC P ops rest sps G H K →
    ∃ G' H', K G' H' ∧ SEval P ops (List.range' i rest.length) G H G' H' := by
  intro rest
  induction rest with
  | nil => intro i sps G H _ h; exact ⟨G, H, h, Nat.le_refl _, fun ψ w a hw hg _ Q hQ => by simp [wpOps]; exact hQ ψ a w hg (.refl hw)⟩
  | cons o rest ih =>
    intro i sps G H hk h
    obtain ⟨g, v, H1, h1, h2, h3⟩ := h
    obtain ⟨G', H', hK, hl, hS⟩ := ih (i + 1) sps.tail (G.put o.dst (g, v)) H1 (fun k => by have := hk (k + 1); simp at this; rw [this]; congr 1; omega) h3
    have hoi : ops[i]? = some o := by have := hk 0; simp at this; exact this.symm
    have hl1 : H.length ≤ H1.length := by
      cases g with
      | true => exact (h2.1 rfl).1.1
      | false => rw [h2.2.1 rfl]; exact Nat.le_refl _
    refine ⟨G', H', hK, by omega, fun ψ w a hw hg hn Q hQ => ?_⟩
    simp only [List.length_cons, List.range'_succ, wpOps, hoi, hg.wanted h1]
    cases g with
    | true =>
      simp only [if_true]
      refine .inl ((h2.1 rfl).1.2 ψ w a hw (hg.orel o) (fun id p q => hn id p (by omega)) _ _ ?_)
      intro v' ψ' w' hv hs
      refine hS ψ' w' _ hs.wr (GR.put (hg.mono hs.le) h2.2.2 (by simp [Rel]; exact hv)) (fun id p q => by rw [hs.off id (.inr p)]; exact hn id (by omega) q) Q ?_
      intro ψ2 a2 w2 k1 k2
      exact hQ ψ2 a2 w2 k1 (hs.trans k2)
    | false =>
      simp only [Bool.false_eq_true, if_false]
      obtain rfl := h2.2.1 rfl
      exact hS ψ w _ hw (GR.put hg h2.2.2 (by simp [Rel])) hn Q hQ

/-- What is known at the region's end: of these slots, where it is known for sure. -/
def GF.keep (G : GF) : List Nat → List (Nat × Value)
  | [] => []
  | t :: ts => match G.get t with
    | some (true, v) => (t, v) :: GF.keep G ts
    | _ => GF.keep G ts
def AF.toG (T : AF) : GF := ⟨T.n, T.l.map fun | (t, v) => (t, true, v)⟩

theorem lookup_keep {G : GF} {t : Nat} {v : Value} : ∀ (ts : List Nat), (G.keep ts).lookup t = some v → G.get t = some (true, v) := by
  intro ts
  induction ts with
  | nil => intro h; simp [GF.keep] at h
  | cons s ts ih =>
    intro h
    simp only [GF.keep] at h
    split at h
    · rename_i u hu
      rw [List.lookup_cons] at h
      by_cases hst : t = s
      · subst hst; simp at h; subst h; exact hu
      · have : (t == s) = false := by simpa using hst
        rw [this] at h; exact ih h
    · exact ih h

theorem FR.toG {ψ : Emb} {T : AF} {a : Act} (h : FR ψ T a) : GR ψ T.toG a := by
  refine ⟨h.1, h.2.1, fun t e he => ?_⟩
  have : ∀ (l : List (Nat × Value)), (l.map fun p => (p.1, true, p.2)).lookup t = some e → e.1 = true ∧ l.lookup t = some e.2 := by
    intro l
    induction l with
    | nil => intro h; simp at h
    | cons p l ih =>
      intro h
      simp only [List.map_cons, List.lookup_cons] at h
      rw [List.lookup_cons]
      cases hpt : (t == p.1) with
      | true => rw [hpt] at h; simp at h; subst h; exact ⟨rfl, rfl⟩
      | false => rw [hpt] at h; exact ih h
  obtain ⟨h1, h2⟩ := this T.l he
  unfold Rel; rw [if_pos h1]
  exact h.2.2 t _ h2

theorem GR.toF {ψ : Emb} {G : GF} {a : Act} (h : GR ψ G a) (ts : List Nat) : FR ψ ⟨G.n, G.keep ts⟩ a :=
  ⟨h.1, h.2.1, fun t v e => (h.2.2 t _ (lookup_keep ts e)).ev rfl rfl⟩

/-- A region whose order is that of the text. -/
theorem CWp.region {P : Program} {id : Nat} {ops : Array Oper} {Q : Exit → AF → AH → Prop} {T : AF} {H : AH} (live : List Nat)
    (h : regVC P ops ops.toList (List.replicate ops.size true) T.toG H (fun G H => Q .normal ⟨G.n, G.keep live⟩ H)) : CWp P (.region id ops false) Q T H := by
  obtain ⟨G', H', hK, hl, hS⟩ := regVC_seq ops.toList 0 _ _ _ (fun k => by simp) h
  refine ⟨.normal, _, H', hK, hl, fun ψ w a hw hf hn => wp_region ?_⟩
  have := hS ψ w a hw hf.toG hn (fun e1 a1 w1 => ∃ ψ', e1 = .normal ∧ FR ψ' ⟨G'.n, G'.keep live⟩ a1 ∧ Step ψ H w ψ' H' w1) (fun ψ' a' w' k1 k2 => ⟨ψ', rfl, k1.toF live, k2⟩)
  rw [List.range_eq_range']
  simpa using this

end Go.Proofs.YtaccaelocddakaaDoor
