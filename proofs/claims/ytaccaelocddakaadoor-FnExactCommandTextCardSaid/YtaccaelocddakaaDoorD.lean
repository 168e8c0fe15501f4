/- A part of the proof: no conditions. -/
import Derived.Test.YtaccaelocddakaaDoorC
namespace Go.Proofs.YtaccaelocddakaaDoor
open Go Go.RowKit
set_option linter.unusedVariables false
set_option linter.unusedSectionVars false
variable [Tabs]

section
variable {P : Program} {ρ : Operand → Option Value} {o : Oper}

theorem VR.ptr_inv {ψ : Emb} {id j : Nat} {v : Value} (h : VR ψ (.pointer (some ⟨id, j, none⟩)) v) : ∃ L, ψ id = some L ∧ v = .pointer (some ⟨L.b, L.o + j, none⟩) := by
  cases h; exact ⟨_, ‹_›, rfl⟩

/-- A step's end: the operation gives a value, the world has turned. -/
theorem wp_value {o : Oper} {a : Act} {w w' : World} {v : Value} {K : Act → World → Prop} {Q : Exit → Act → World → Prop}
    (h : (execOp a.eval o).run P w = .ok (.value v) w') (k : K (a.put o.dst v) w') : o.wp P a w K Q := by
  simp only [Oper.wp, h, Oper.upon]; exact k
theorem wp_skipv {o : Oper} {a : Act} {w w' : World} {K : Act → World → Prop} {Q : Exit → Act → World → Prop}
    (h : (execOp a.eval o).run P w = .ok .skip w') (k : K (a.put o.dst undef) w') : o.wp P a w K Q := by
  simp only [Oper.wp, h, Oper.upon]; exact k

theorem take_drop_rel {ψ : Emb} {cs : List Value} {c : List Value} {off j n : Nat} (hrel : ∀ (i : Nat) (v : Value), cs[i]? = some v → ∃ v', c[off + i]? = some v' ∧ VR ψ v v') (h1 : j + n ≤ cs.length) (h2 : off + j + n ≤ c.length) :
    VRs ψ ((cs.drop j).take n) ((c.drop (off + j)).take n) := by
  refine VRs.of_get (by simp; omega) fun i v hv => ?_
  rw [List.getElem?_take] at hv
  by_cases hi : i < n
  · rw [if_pos hi, List.getElem?_drop] at hv
    obtain ⟨v', q1, q2⟩ := hrel _ _ hv
    exact ⟨v', by rw [List.getElem?_take, if_pos hi, List.getElem?_drop, Nat.add_assoc]; exact q1, q2⟩
  · rw [if_neg hi] at hv; cases hv

theorem OEval.load {t : TypeId} {x : Operand} {id j : Nat} {H : AH} {B : Blk} {v : Value} (ho : o.op = .load t x) (ht : Ty P t 1 false) (hx : ρ x = some (.pointer (some ⟨id, j, none⟩)))
    (hB : H[id]? = some B) (hd : B.st ≠ .dead) (hv : B.cells[j]? = some v) : OEval P o ρ H v H := by
  refine ⟨Nat.le_refl _, fun ψ w a hw hh hn K Q hk => ?_⟩
  obtain ⟨L, hL, e1⟩ := (hh x (by simp [ho, Op.operands]) _ hx).ptr_inv
  obtain ⟨c, fr, g1, g2, g3, g4, g5, g6⟩ := hw.some_live hL hB hd
  obtain ⟨v', q1, q2⟩ := g5 j v hv
  refine wp_value (v := v') ?_ (hk v' ψ w q2 (.refl hw))
  have hc : w.cell? ⟨L.b, L.o + j, none⟩ = some v' := by rw [cell_of g1]; exact q1
  simp [execOp, ho, Instr.loadAt, Instr.sureAddr, e1, loadVar, ht.isAgg w, hc]

theorem OEval.load_agg {t : TypeId} {x : Operand} {id j n : Nat} {H : AH} {B : Blk} (ho : o.op = .load t x) (ht : Ty P t n true) (hx : ρ x = some (.pointer (some ⟨id, j, none⟩)))
    (hB : H[id]? = some B) (hd : B.st ≠ .dead) (hv : j + n ≤ B.cells.length) : OEval P o ρ H (.agg ((B.cells.drop j).take n).toArray) H := by
  refine ⟨Nat.le_refl _, fun ψ w a hw hh hn K Q hk => ?_⟩
  obtain ⟨L, hL, e1⟩ := (hh x (by simp [ho, Op.operands]) _ hx).ptr_inv
  obtain ⟨c, fr, g1, g2, g3, g4, g5, g6⟩ := hw.some_live hL hB hd
  have hrun := loadCells_run (P := P) (o := L.o + j) g1 n (by omega)
  refine wp_value (v := .agg ((c.toList.drop (L.o + j)).take n).toArray) ?_ (hk _ ψ w (.agg ?_) (.refl hw))
  · simp [execOp, ho, Instr.loadAt, Instr.sureAddr, e1, loadVar, ht.isAgg w, ht.sizeOf w, hrun]
  · simpa using take_drop_rel (c := c.toList) (off := L.o) (j := j) (n := n) (by simpa using g5) hv (by simp; omega)

theorem VRs.oneCell {ψ : Emb} : ∀ {xs ys : List Value}, VRs ψ xs ys → (∀ x ∈ xs, YtaccaelocddakaaDoor.oneCell x = true) → ∀ y ∈ ys, YtaccaelocddakaaDoor.oneCell y = true
  | _, _, .nil, _, y, h => by simp at h
  | _, _, .cons a b, k, y, h => by
    simp at h
    rcases h with rfl | h
    · rw [a.oneCell]; exact k _ (by simp)
    · exact VRs.oneCell b (fun x hx => k x (by simp [hx])) y h

theorem over_rel {ψ : Emb} {cs c vs vs' : List Value} {off j : Nat} (hrel : ∀ (i : Nat) (v : Value), cs[i]? = some v → ∃ v', c[off + i]? = some v' ∧ VR ψ v v')
    (hv : VRs ψ vs vs') (h1 : j + vs.length ≤ cs.length) (h2 : off + j + vs.length ≤ c.length) :
    ∀ (i : Nat) (v : Value), (over cs j vs)[i]? = some v → ∃ v', (over c (off + j) vs')[off + i]? = some v' ∧ VR ψ v v' := by
  intro i v h
  have hl := hv.length
  rw [over_get _ _ _ _ h1] at h
  rw [over_get _ _ _ _ (by omega)]
  by_cases hi : j ≤ i ∧ i < j + vs.length
  · rw [if_pos hi] at h
    rw [if_pos (by omega), show off + i - (off + j) = i - j by omega]
    exact hv.get _ _ h
  · rw [if_neg hi] at h
    rw [if_neg (by omega)]
    exact hrel _ _ h

/-- Cells stored over a block's. -/
theorem store_step {ψ : Emb} {H : AH} {w : World} (hw : WR ψ H w) {id : Nat} {L : Loc} {B : Blk} (h1 : ψ id = some L) (h2 : H[id]? = some B) (h3 : B.st = .rw) {j : Nat} {vs vs' : List Value} (hv : VRs ψ vs vs') (hle : j + vs.length ≤ B.cells.length) (hoc : ∀ v ∈ vs, oneCell v = true) :
    ∃ w', (storeCells ⟨L.b, L.o + j, none⟩ vs').run P w = .ok () w' ∧ Step ψ H w ψ (H.set id { B with cells := over B.cells j vs }) w' := by
  obtain ⟨c, fr, g1, g2, g3, g4, g5, g6⟩ := hw.some_live h1 h2 (by rw [h3]; decide)
  have hl := hv.length
  refine ⟨_, storeCells_run (P := P) (o := L.o + j) vs' 0 w c g1 (by rw [g2]; exact g6 h3) (by omega) (hv.oneCell hoc), ?_⟩
  refine Step.put hw h1 h2 h3 g1 g2 (by simp [over_length]) (by simpa [over_length] using g4) (g6 h3) ?_
  have := over_rel (c := c.toList) (off := L.o) (j := j) (by simpa using g5) hv hle (by simp; omega)
  simpa using this

theorem OEval.store {t : TypeId} {x y : Operand} {id j : Nat} {H : AH} {B : Blk} {v : Value} (ho : o.op = .store t x y) (ht : Ty P t 1 false) (hx : ρ x = some (.pointer (some ⟨id, j, none⟩))) (hy : ρ y = some v)
    (hB : H[id]? = some B) (hd : B.st = .rw) (hj : j < B.cells.length) (hv : oneCell v = true) : OEval P o ρ H undef (H.set id { B with cells := B.cells.set j v }) := by
  refine ⟨by simp, fun ψ w a hw hh hn K Q hk => ?_⟩
  obtain ⟨L, hL, e1⟩ := (hh x (by simp [ho, Op.operands]) _ hx).ptr_inv
  have e2 := hh y (by simp [ho, Op.operands]) _ hy
  obtain ⟨w', r1, r2⟩ := store_step (P := P) hw hL hB hd (j := j) (vs := [v]) (vs' := [a.eval y]) (.cons e2 .nil) (by simp; omega) (by simpa using hv)
  have hv' : (a.eval y).cells = #[a.eval y] := by
    have := e2.oneCell; rw [hv] at this
    cases hz : a.eval y <;> rw [hz] at this <;> first | rfl | cases this
  refine wp_skipv (w' := w') ?_ (hk undef ψ w' (.tuple .nil) ?_)
  · simp only [execOp, ho, Instr.storeAt, Instr.sureAddr, e1]
    simp [storeVar, hv', ht.sizeOf w, r1]
  · simpa [over] using r2

theorem OEval.store_agg {t : TypeId} {x y : Operand} {id j n : Nat} {H : AH} {B : Blk} {vs : Array Value} (ho : o.op = .store t x y) (ht : Ty P t n true) (hx : ρ x = some (.pointer (some ⟨id, j, none⟩))) (hy : ρ y = some (.agg vs))
    (hB : H[id]? = some B) (hd : B.st = .rw) (hn : vs.size = n) (hj : j + n ≤ B.cells.length) (hv : vs.toList.all oneCell = true) : OEval P o ρ H undef (H.set id { B with cells := over B.cells j vs.toList }) := by
  refine ⟨by simp, fun ψ w a hw hh hfr K Q hk => ?_⟩
  obtain ⟨L, hL, e1⟩ := (hh x (by simp [ho, Op.operands]) _ hx).ptr_inv
  have e2 := hh y (by simp [ho, Op.operands]) _ hy
  cases e3 : a.eval y <;> rw [e3] at e2 <;> cases e2
  rename_i ys hys
  obtain ⟨w', r1, r2⟩ := store_step (P := P) hw hL hB hd (j := j) (vs := vs.toList) (vs' := ys.toList) hys (by simp; omega) (fun v hv' => by rw [List.all_eq_true] at hv; exact hv v hv')
  have hl := hys.length
  refine wp_skipv (w' := w') ?_ (hk undef ψ w' (.tuple .nil) r2)
  have hs : ys.size = n := by simp at hl; omega
  simp only [execOp, ho, Instr.storeAt, Instr.sureAddr, e1, e3]
  simp [storeVar, Value.cells, ht.sizeOf w, r1, hs]

/-- Values that hold no address. -/
def plainCell : Value → Bool
  | .bool _ | .int .. | .string _ | .pointer none | .slice none 0 0 | .nilFunc | .nilIface => true
  | _ => false
theorem VR.refl_plain {ψ : Emb} {v : Value} (h : plainCell v = true) : VR ψ v v := by
  unfold plainCell at h; split at h <;> first | constructor | cases h
theorem VRs.refl_plain {ψ : Emb} : ∀ {vs : List Value}, vs.all plainCell = true → VRs ψ vs vs
  | [], _ => .nil
  | v :: vs, h => by simp at h; exact .cons (.refl_plain h.1) (VRs.refl_plain (by simpa using h.2))

/-- The new block that a value makes. -/
theorem newVar_step {ψ : Emb} {H : AH} {w : World} (hw : WR ψ H w) (hn : ψ H.length = none) {t : TypeId} {esz : Nat} {u u' : Value} (hu : VR ψ u u') :
    ∃ w', (newVar t u').run P w = .ok ⟨w.heap.size, 0, none⟩ w' ∧ Step ψ H w (ψ.put H.length ⟨w.heap.size, 0, u'.cells.size, esz⟩) (H ++ [⟨t, esz, u.cells.toList, .rw⟩]) w' := by
  refine ⟨{ w with heap := w.heap.push (.cells u'.cells t) }, by simp [newVar, newRow], ?_⟩
  have hc : VRs ψ u.cells.toList u'.cells.toList := by cases hu <;> first | exact ‹VRs _ _ _› | exact .cons (by constructor <;> assumption) .nil
  refine Step.alloc hw hn (fr := (0, 0)) rfl rfl rfl rfl (by have := hc.length; simp at this; simp [this]) (by intro k _; simp) ?_
  intro i v hv
  obtain ⟨v', q1, q2⟩ := hc.get i v hv
  exact ⟨v', by simpa using q1, q2⟩

theorem OEval.box {t : TypeId} {x : Operand} {H : AH} {v : Value} (n : Nat) (ho : o.op = .box t x) (hx : ρ x = some v) : OEval P o ρ H (.pointer (some ⟨H.length, 0, none⟩)) (H ++ [⟨t, n, v.cells.toList, .rw⟩]) := by
  refine ⟨by simp, fun ψ w a hw hh hn K Q hk => ?_⟩
  have e1 := hh x (by simp [ho, Op.operands]) _ hx
  obtain ⟨w', r1, r2⟩ := newVar_step (P := P) hw (hn H.length (Nat.le_refl _) (by simp)) (t := t) (esz := n) e1
  refine wp_value (v := .pointer (some ⟨w.heap.size, 0, none⟩)) (w' := w') ?_ (hk _ _ w' (.ptr (j := 0) Emb.put_self) r2)
  simp [execOp, ho, Instr.box, r1]

theorem OEval.alloc {t : TypeId} {H : AH} {z : Value} (n : Nat) (ho : o.op = .alloc t) (hz : ∃ ti, P.info? t = some ti ∧ ti.zero = some z) (hp : z.cells.toList.all plainCell = true) : OEval P o ρ H (.pointer (some ⟨H.length, 0, none⟩)) (H ++ [⟨t, n, z.cells.toList, .rw⟩]) := by
  refine ⟨by simp, fun ψ w a hw hh hn K Q hk => ?_⟩
  have hzr : VR ψ z z := by
    cases z <;> simp [Value.cells] at hp <;> first | exact .refl_plain (by simpa using hp) | exact .agg (VRs.refl_plain (by simpa using hp)) | cases hp
  obtain ⟨w', r1, r2⟩ := newVar_step (P := P) hw (hn H.length (Nat.le_refl _) (by simp)) (t := t) (esz := n) hzr
  obtain ⟨ti, hi, hz'⟩ := hz
  refine wp_value (v := .pointer (some ⟨w.heap.size, 0, none⟩)) (w' := w') ?_ (hk _ _ w' (.ptr (j := 0) Emb.put_self) r2)
  simp [execOp, ho, Instr.alloc, zeroValue, typeInfo, hi, hz', r1]

end
end Go.Proofs.YtaccaelocddakaaDoor
