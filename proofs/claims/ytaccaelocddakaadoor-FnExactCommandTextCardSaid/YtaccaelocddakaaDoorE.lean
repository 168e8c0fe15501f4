/- A part of the proof: no conditions. -/
import Derived.Test.YtaccaelocddakaaDoorD
namespace Go.Proofs.YtaccaelocddakaaDoor
open Go Go.RowKit
set_option linter.unusedVariables false
set_option linter.unusedSectionVars false
variable [Tabs]

section
variable {P : Program} {ρ : Operand → Option Value} {o : Oper}

theorem zip_over_gen (off : Nat) : ∀ (vs : List Value) (k : Nat) (cs : Array Value), ((vs.zipIdx k).foldl (fun cs p => cs.setIfInBounds (off + p.2) p.1) cs) = (over cs.toList (off + k) vs).toArray := by
  intro vs
  induction vs with
  | nil => intro k cs; simp [over]
  | cons v vs ih => intro k cs; simp only [List.zipIdx_cons, List.foldl_cons]; rw [ih]; simp [over, Nat.add_assoc]

theorem zip_over (off : Nat) (vs : Array Value) (cs : Array Value) : (vs.zipIdx.foldl (fun cs (c, j) => cs.setIfInBounds (off + j) c) cs) = (over cs.toList off vs.toList).toArray := by
  have := zip_over_gen off vs.toList 0 cs
  rw [← Array.foldl_toList]
  simpa using this

/-- Parts, each at its place. -/
inductive PRs (ψ : Emb) : List (Nat × Value) → List (Nat × Value) → Prop
  | nil : PRs ψ [] []
  | cons {i : Nat} {u v : Value} {xs ys : List (Nat × Value)} (h : VR ψ u v) (t : PRs ψ xs ys) : PRs ψ ((i, u) :: xs) ((i, v) :: ys)

theorem VR.cells {ψ : Emb} {u v : Value} (hu : VR ψ u v) : VRs ψ u.cells.toList v.cells.toList := by
  cases hu <;> first | exact ‹VRs _ _ _› | exact .cons (by constructor <;> assumption) .nil

theorem over_VRs {ψ : Emb} {cs c vs vs' : List Value} {j : Nat} (h : VRs ψ cs c) (hv : VRs ψ vs vs') (h1 : j + vs.length ≤ cs.length) : VRs ψ (over cs j vs) (over c j vs') := by
  have hl := h.length
  refine VRs.of_get (by simp [over_length, hl]) fun i v hi => ?_
  have := over_rel (off := 0) (by simpa using h.get) hv h1 (by simp; omega) i v hi
  simpa using this

theorem fill_rel {ψ : Emb} {place : Nat → Option (Nat × Nat)} : ∀ {ps qs : List (Nat × Value)}, PRs ψ ps qs → ∀ {cs ds : Array Value} {r : Array Value}, VRs ψ cs.toList ds.toList → Instr.fill place cs ps = some r →
    ∃ r', Instr.fill place ds qs = some r' ∧ VRs ψ r.toList r'.toList
  | _, _, .nil, cs, ds, r, h, e => by simp [Instr.fill] at e; subst e; exact ⟨ds, by simp [Instr.fill], h⟩
  | _, _, .cons (i := i) (u := u) (v := v) hu t, cs, ds, r, h, e => by
    rw [Instr.fill] at e ⊢
    have hl := h.length
    have hc := hu.cells
    have hcl := hc.length
    cases hp : place i with
    | none => rw [hp] at e; cases e
    | some os =>
      obtain ⟨off, size⟩ := os
      rw [hp] at e
      simp only at e ⊢
      split at e
      · cases e
      · rename_i hcond
        have hcond' : ¬ ((v.cells.size ≠ size || off + v.cells.size > ds.size) = true) := by
          simp at hcond hl hcl ⊢
          omega
        rw [if_neg hcond']
        rw [zip_over] at e ⊢
        simp at hcond
        exact fill_rel t (by simpa using over_VRs h hc (by simp; omega)) e

theorem parts_rel {ψ : Emb} {σ : Operand → Value} : ∀ {parts : List (Nat × Operand)} {us : List (Nat × Value)}, (∀ p ∈ parts, ∀ u, ρ p.2 = some u → VR ψ u (σ p.2)) →
    parts.map (fun p => (ρ p.2).map (fun u => (p.1, u))) = us.map some → PRs ψ us (parts.map fun p => (p.1, σ p.2))
  | [], [], _, _ => .nil
  | [], _ :: _, _, h => by simp at h
  | _ :: _, [], _, h => by simp at h
  | p :: ps, u :: us, h, e => by
    simp at e
    obtain ⟨⟨w, e1, e2⟩, e3⟩ := e
    subst e2
    exact .cons (h p (by simp) w e1) (parts_rel (fun q hq => h q (by simp [hq])) (by simpa using e3))

/-- A struct made of its parts. -/
theorem OPure.build {t : TypeId} {parts : Array (Nat × Operand)} {fs : Array Field} {places : Array (Nat × Nat)} {z : Value} {us : List (Nat × Value)} {cells : Array Value} (ho : o.op = .build t parts)
    (ht : P.underlying t = some (.struct fs)) (hz : ∃ ti, P.info? t = some ti ∧ ti.zero = some z) (hp : z.cells.toList.all plainCell = true)
    (hpl : ∀ w, (fs.mapM fun f => do pure (f.offset, ← sizeOf f.type) : Sem (Array (Nat × Nat))).run P w = .ok places w)
    (hu : parts.toList.map (fun p => (ρ p.2).map (fun u => (p.1, u))) = us.map some) (hf : Instr.fill (fun i => places[i]?) z.cells us = some cells) : OPure P o ρ (.agg cells) := by
  intro ψ σ hh
  have hpr : PRs ψ us (parts.toList.map fun p => (p.1, σ p.2)) := parts_rel (fun p hp u hu => hh p.2 (by simp [ho, Op.operands]; exact ⟨p.1, by simpa using hp⟩) u hu) hu
  obtain ⟨r', q1, q2⟩ := fill_rel hpr (VRs.refl_plain hp) hf
  refine ⟨.agg r', .agg q2, fun w => ?_⟩
  obtain ⟨ti, hi, hz'⟩ := hz
  have h1 : (parts.map fun (i, x) => (i, σ x)).toList = parts.toList.map fun p => (p.1, σ p.2) := by simp
  have h2 := hpl w
  simp only [bind_pure_comp] at h2
  simp [execOp, ho, Instr.build, zeroValue, typeInfo, hi, hz', underlying, ht, h2, q1]

theorem newRow_step {ψ : Emb} {H : AH} {w : World} (hw : WR ψ H w) (hn : ψ H.length = none) {t : TypeId} {esz : Nat} {cs : List Value} {c : Array Value} (hu : VRs ψ cs c.toList) :
    ∃ w', (newRow t c).run P w = .ok ⟨w.heap.size, 0, none⟩ w' ∧ Step ψ H w (ψ.put H.length ⟨w.heap.size, 0, c.size, esz⟩) (H ++ [⟨t, esz, cs, .rw⟩]) w' := by
  refine ⟨{ w with heap := w.heap.push (.cells c t) }, by simp [newRow], ?_⟩
  refine Step.alloc hw hn (fr := (0, 0)) rfl rfl rfl rfl (by have := hu.length; simp at this; omega) (by intro k _; simp) ?_
  intro i v hv
  obtain ⟨v', q1, q2⟩ := hu.get i v hv
  exact ⟨v', by simpa using q1, q2⟩

theorem VR.of_newrow {ψ : Emb} {id b n esz lim : Nat} (h : ψ id = some ⟨b, 0, lim, esz⟩) {c c' : Nat} (h1 : n ≤ c) (h2 : c ≤ c') (hl : c' * esz ≤ lim) : VR ψ (.slice (some ⟨id, 0, none⟩) n c) (.slice (some ⟨b, 0, none⟩) n c') := by
  rcases Nat.eq_zero_or_pos c with e | e
  · subst e
    obtain rfl : n = 0 := by omega
    exact .sl0 (j' := 0) h (by simpa using hl)
  · have := VR.sl (ψ := ψ) (id := id) (j := 0) (L := ⟨b, 0, lim, esz⟩) h e h1 h2 (by simpa using hl)
    simpa using this

theorem zeros_plain {z : Array Value} (hp : z.toList.all plainCell = true) (n : Nat) : ((Array.range n).map (fun i => z[i % z.size]!)).toList.all plainCell = true := by
  rw [List.all_eq_true] at hp ⊢
  intro v hv
  simp at hv
  obtain ⟨i, hi, rfl⟩ := hv
  by_cases h0 : z.size = 0
  · have : z = #[] := by simpa using h0
    subst this; rfl
  · have hlt : i % z.size < z.size := Nat.mod_lt _ (by omega)
    rw [getElem!_pos z _ hlt]
    exact hp _ (by simp)

/-- A slice's literal. -/
theorem OEval.buildSlice {t e n : Nat} {len : Nat} {parts : Array (Nat × Operand)} {z : Value} {us : List (Nat × Value)} {cells : Array Value} {H : AH} (ho : o.op = .buildSlice t len parts)
    (ht : P.underlying t = some (.slice e)) (hz : ∃ ti, P.info? e = some ti ∧ ti.zero = some z ∧ ti.size = n) (hp : z.cells.toList.all plainCell = true) (hlim : len * n ≤ 2 ^ 24)
    (hu : parts.toList.map (fun p => (ρ p.2).map (fun u => (p.1, u))) = us.map some)
    (hf : Instr.fill (fun i => some (i * n, n)) ((Array.range (len * n)).map (fun i => (if len * n = 0 then #[] else z.cells)[i % (if len * n = 0 then #[] else z.cells).size]!)) us = some cells) (hcs : cells.size = len * n) :
    OEval P o ρ H (.slice (some ⟨H.length, 0, none⟩) len len) (H ++ [⟨e, n, cells.toList, .rw⟩]) := by
  refine ⟨by simp, fun ψ w a hw hh hn K Q hk => ?_⟩
  have hpr : PRs ψ us (parts.toList.map fun p => (p.1, a.eval p.2)) := parts_rel (fun p hp u hu => hh p.2 (by simp [ho, Op.operands]; exact ⟨p.1, by simpa using hp⟩) u hu) hu
  have hzz : ((Array.range (len * n)).map (fun i => (if len * n = 0 then #[] else z.cells)[i % (if len * n = 0 then #[] else z.cells).size]!)).toList.all plainCell = true := by
    refine zeros_plain ?_ _
    split
    · rfl
    · exact hp
  obtain ⟨r', q1, q2⟩ := fill_rel hpr (VRs.refl_plain hzz) hf
  obtain ⟨w', r1, r2⟩ := newRow_step (P := P) hw (hn H.length (Nat.le_refl _) (by simp)) (t := e) (esz := n) q2
  have hl := q2.length
  refine wp_value (v := .slice (some ⟨w.heap.size, 0, none⟩) len len) (w' := w') ?_ (hk _ _ w' (VR.of_newrow Emb.put_self (Nat.le_refl _) (Nat.le_refl _) (by simp at hl; omega)) r2)
  obtain ⟨ti, hi, hz1, hz2⟩ := hz
  have h1 : (parts.map fun (i, x) => (i, a.eval x)).toList = parts.toList.map fun p => (p.1, a.eval p.2) := by simp
  have hle : ¬ (len * n > 2 ^ 24) := by omega
  have hsz : (Go.sizeOf e).run P w = .ok n w := by simp [Go.sizeOf, typeInfo, hi, hz2]
  have hzv : (zeroValue e).run P w = .ok z w := by simp [zeroValue, typeInfo, hi, hz1]
  simp only [execOp, ho, Instr.buildSlice]
  by_cases h0 : len * n = 0
  · simp only [h0, if_true] at q1
    simp [underlying, ht, hsz, h0, q1, r1]
    simp at q1
    simp [q1, r1]
  · simp only [h0, if_false] at q1
    simp [underlying, ht, hsz, h0, hzv]
    simp at q1 hle
    rw [if_neg (by omega)]
    simp [q1, r1]

end
end Go.Proofs.YtaccaelocddakaaDoor
