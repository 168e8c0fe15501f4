/- A part of the proof: no conditions. -/
import Derived.Test.YtaccaelocddakaaDoorG
namespace Go.Proofs.YtaccaelocddakaaDoor
open Go Go.RowKit
set_option linter.unusedVariables false
set_option linter.unusedSectionVars false
variable [Tabs]

section
variable {P : Program} {ρ : Operand → Option Value} {o : Oper}

/-- Elements are appended in place: there is room for sure. -/
theorem OEval.append_in {c : Call} {x y : Operand} {t u e : TypeId} {d : TypeDesc} {H : AH} {id j n cp m : Nat} {B : Blk} {yv : Value} {cs : List Value} (ho : o.op = .call c) (hc : c.callee = .builtin .append) (ha : c.args = #[x, y]) (hat : c.argTypes = #[t, u])
    (ht : P.underlying t = some (.slice e)) (hu : P.underlying u = some d) (hd : (∃ e2, d = .slice e2) ∨ d = .string) {size bytes : Nat} (he : ElTy P e size bytes)
    (hx : ρ x = some (.slice (some ⟨id, j, none⟩) n cp)) (hy : ρ y = some yv) (hs : Src H size yv m cs) (hB : H[id]? = some B) (hst : B.st = .rw) (hle : j + n * size + m * size ≤ B.cells.length)
    (hoc : cs.all oneCell = true) (hroom : n + m ≤ cp) (hpos : 0 < cp) :
    OEval P o ρ H (.slice (some ⟨id, j, none⟩) (n + m) cp) (H.set id { B with cells := over B.cells (j + n * size) cs }) := by
  refine ⟨by simp, fun ψ w a hw hh hn K Q hk => ?_⟩
  obtain ⟨m1, m2⟩ := ops_append ho hc ha
  have e1 := hh x m1 _ hx
  have e2 := hh y m2 _ hy
  obtain ⟨l1, cs', l2, l3, l4⟩ := hs.all (P := P) hw e2
  obtain ⟨b', c', ex⟩ := e1.slice_inv
  rw [ex] at e1
  cases e1 with
  | sl0 => omega
  | sl hL g0 g1 g2 g3 =>
    rename_i L
    obtain ⟨w', r1, r2⟩ := store_step (P := P) hw hL hB hst (j := j + n * size) (vs := cs) (vs' := cs'.toList) l3 (by rw [l4]; exact hle) (by rw [List.all_eq_true] at hoc; exact hoc)
    refine wp_value (v := .slice (some ⟨L.b, L.o + j, none⟩) (n + m) c') (w' := w') (exec_append ho hc ha hat ?_) (hk _ ψ _ (.sl hL g0 hroom g2 g3) r2)
    rw [ex]
    exact run_append_in ht hu hd he l1 (by omega) l2 (by simp only [Addr.add_eq]; rw [← Nat.add_assoc] at r1; exact r1)

theorem OEval.copy {c : Call} {x y : Operand} {t u e : TypeId} {H : AH} {id j n cp m : Nat} {B : Blk} {yv : Value} {cs : List Value} (ho : o.op = .call c) (hc : c.callee = .builtin .copy) (ha : c.args = #[x, y]) (hat : c.argTypes = #[t, u])
    (ht : P.underlying t = some (.slice e)) {size : Nat} (hsz : ∃ ti, P.info? e = some ti ∧ ti.size = size)
    (hx : ρ x = some (.slice (some ⟨id, j, none⟩) n cp)) (hy : ρ y = some yv) (hs : Src H size yv m cs) (hB : H[id]? = some B) (hst : B.st = .rw) (hle : j + n * size ≤ B.cells.length)
    (hoc : cs.all oneCell = true) (hpos : 0 < cp) :
    OEval P o ρ H (.int .i64 (min m n : Nat)) (H.set id { B with cells := over B.cells j (cs.take (min m n * size)) }) := by
  refine ⟨by simp, fun ψ w a hw hh hn K Q hk => ?_⟩
  have e1 := hh x (by simp [ho, Op.operands, Call.operands, hc, ha]) _ hx
  have e2 := hh y (by simp [ho, Op.operands, Call.operands, hc, ha]) _ hy
  obtain ⟨l1, l2, l4⟩ := hs.run (P := P) hw e2
  obtain ⟨cs', l5, l6⟩ := l2 (min m n) (Nat.min_le_left _ _)
  obtain ⟨b', c', ex⟩ := e1.slice_inv
  rw [ex] at e1
  obtain ⟨ti, hi1, hi2⟩ := hsz
  have hsize : ∀ w, (Go.sizeOf e).run P w = .ok size w := fun w => by simp [Go.sizeOf, typeInfo, hi1, hi2]
  cases e1 with
  | sl0 => omega
  | sl hL g0 g1 g2 g3 =>
    rename_i L
    have hmn : min m n * size ≤ n * size := Nat.mul_le_mul_right _ (Nat.min_le_right _ _)
    obtain ⟨w', r1, r2⟩ := store_step (P := P) hw hL hB hst (j := j) (vs := cs.take (min m n * size)) (vs' := cs'.toList) l6 (by simp; omega)
      (by rw [List.all_eq_true] at hoc; exact fun v hv => hoc v (List.mem_of_mem_take hv))
    refine wp_value (v := .int .i64 (min m n : Nat)) (w' := w') ?_ (hk _ ψ _ (.int _ _) r2)
    have hl5 : (Builtin.firstCells size (m.min n) (a.eval y)).run P w = .ok cs' w := l5
    simp [execOp, ho, resolve, hc, ha, invoke, builtin, Builtin.copy_, hat, underlying, ht, ex, l1, hsize, hl5, r1, goInt]

theorem zeroCells_flat {z : Array Value} (n : Nat) : (Builtin.zeroCells z n).toList = (List.replicate n z.toList).flatten := by
  unfold Builtin.zeroCells; exact zeros_flat n

theorem OEval.clear {c : Call} {x : Operand} {t e : TypeId} {H : AH} {id j n cp : Nat} {B : Blk} {z : Value} (ho : o.op = .call c) (hc : c.callee = .builtin .clear) (ha : c.args = #[x]) (hat : c.argTypes = #[t])
    (ht : P.underlying t = some (.slice e)) {size bytes : Nat} (he : ElTy P e size bytes) (hz : ∃ ti, P.info? e = some ti ∧ ti.zero = some z)
    (hx : ρ x = some (.slice (some ⟨id, j, none⟩) n cp)) (hB : H[id]? = some B) (hst : B.st = .rw) (hle : j + n * size ≤ B.cells.length) :
    OEval P o ρ H (.tuple #[]) (H.set id { B with cells := over B.cells j (List.replicate n z.cells.toList).flatten }) := by
  refine ⟨by simp, fun ψ w a hw hh hn K Q hk => ?_⟩
  have e1 := hh x (by simp [ho, Op.operands, Call.operands, hc, ha]) _ hx
  obtain ⟨b', c', ex⟩ := e1.slice_inv
  rw [ex] at e1
  obtain ⟨ti, z', q1, q2, q3, q4, q5, q6⟩ := he.info
  obtain ⟨ti', hz1, hz2⟩ := hz
  rw [q1] at hz1; cases hz1
  rw [q4] at hz2; cases hz2
  have hzv : ∀ w, (zeroValue e).run P w = .ok z w := fun w => by simp [zeroValue, typeInfo, q1, q4]
  by_cases hn0 : n = 0
  · subst hn0
    have : H.set id { B with cells := over B.cells j (List.replicate 0 z.cells.toList).flatten } = H := by
      apply List.ext_getElem?
      intro i
      by_cases hi : i = id
      · subst hi; rw [set_get_eq hB, hB]; simp [over]
      · rw [List.getElem?_set_ne (fun x => hi x.symm)]
    rw [this] at hk
    refine wp_value (v := .tuple #[]) (w' := w) ?_ (hk _ ψ w (.tuple .nil) (.refl hw))
    cases e1 <;> simp [execOp, ho, resolve, hc, ha, invoke, builtin, Builtin.clear_, hat, underlying, ht, ex]
  · cases e1 with
    | sl0 => omega
    | sl hL g0 g1 g2 g3 =>
      rename_i L
      have hl : ((List.replicate n z.cells.toList).flatten).length = n * size := by simp [q5]
      have hoc : ∀ v ∈ (List.replicate n z.cells.toList).flatten, oneCell v = true := by
        intro v hv
        have := flat_all q6 n
        rw [List.all_eq_true] at this
        have := this v hv
        cases v <;> first | rfl | cases this
      obtain ⟨w', r1, r2⟩ := store_step (P := P) hw hL hB hst (j := j) (vs := (List.replicate n z.cells.toList).flatten) (vs' := (List.replicate n z.cells.toList).flatten) (VRs.refl_plain (flat_all q6 n)) (by rw [hl]; exact hle) hoc
      refine wp_value (v := .tuple #[]) (w' := w') ?_ (hk _ ψ _ (.tuple .nil) r2)
      have hzc : (Builtin.zeroCells z.cells n).toList = (List.replicate n z.cells.toList).flatten := zeroCells_flat n
      simp [execOp, ho, resolve, hc, ha, invoke, builtin, Builtin.clear_, hat, underlying, ht, ex, hn0, hzv, hzc, r1]

/-- Bytes of a text, in a new block. -/
theorem OEval.bytes_of {s d e : TypeId} {x : Operand} {b : ByteArray} {H : AH} (ho : o.op = .convert s d x) (hs : P.underlying s = some .string) (hd : P.underlying d = some (.slice e)) (he : P.underlying e = some (.int .u8)) (hx : ρ x = some (.string b)) :
    OEval P o ρ H (.slice (some ⟨H.length, 0, none⟩) (bl b).length (bl b).length) (H ++ [⟨e, 1, (bl b).map fun q => .int .u8 q.toNat, .rw⟩]) := by
  refine ⟨by simp, fun ψ w a hw hh hn K Q hk => ?_⟩
  have e1 := (hh x (by simp [ho, Op.operands]) _ hx).string_inv
  let q := Question.appendCap b.size 0 e
  let cap := q.cut (w.tape w.drawn q)
  have hcap : b.size ≤ cap := by simp [cap, q, Question.cut]
  let elems : Array Value := b.data.map fun q => .int .u8 q.toNat
  let c : Array Value := elems ++ Array.replicate (cap - b.size) (.int .u8 0)
  have hcs : c.size = cap := by simp [c, elems]; have : b.data.size = b.size := rfl; omega
  have hst : Step ψ H w (ψ.put H.length ⟨w.heap.size, 0, c.size, 1⟩) (H ++ [⟨e, 1, (bl b).map fun q => .int .u8 q.toNat, .rw⟩]) ((w.drew.alloc (.cells c e)).freeze { block := w.heap.size, off := c.size } 1) := by
    refine Step.alloc hw (hn _ (Nat.le_refl _) (by simp)) (fr := (c.size, c.size + 1)) ?_ ?_ ?_ ?_ (by simp [bl_length, hcs]; exact hcap) (by intro k hk; simp; omega) ?_
    · unfold World.freeze
      rw [if_neg (by decide)]
      apply Array.ext_getElem?
      intro i
      show ((w.heap.push (.cells c e)).modify w.heap.size _)[i]? = _
      rw [Array.getElem?_modify, Array.getElem?_push, Array.getElem?_push]
      by_cases hi : w.heap.size = i
      · subst hi; simp
      · rw [if_neg hi, if_neg (fun x => hi x.symm), if_neg (fun x => hi x.symm)]
    · rfl
    · rfl
    · rfl
    · intro i v hv
      have hlt : i < (bl b).length := by
        rcases Nat.lt_or_ge i (bl b).length with g | g
        · exact g
        · simp [List.getElem?_eq_none g] at hv
      have hlt' : i < elems.size := by simpa [elems, bl] using hlt
      refine ⟨v, ?_, ?_⟩
      · rw [Array.getElem?_append_left hlt', ← Array.getElem?_toList]
        simpa [elems, bl] using hv
      · rw [List.getElem?_map] at hv
        cases hq : (bl b)[i]? with
        | none => rw [hq] at hv; cases hv
        | some q => rw [hq] at hv; simp at hv; subst hv; exact .int _ _
  refine wp_value (v := .slice (some ⟨w.heap.size, 0, none⟩) (bl b).length cap) (w' := (w.drew.alloc (.cells c e)).freeze { block := w.heap.size, off := c.size } 1) ?_ (hk _ _ _ (VR.of_newrow Emb.put_self (Nat.le_refl _) (by rw [bl_length]; exact hcap) (by rw [hcs]; omega)) hst)
  have hnf : (Question.appendCap b.size 0 e).forced = false := rfl
  have hshape : (w.drew.alloc (.cells c e)).shape? w.heap.size = some (e, c.size) := by
    show (match (w.heap.push (.cells c e))[w.heap.size]? with | some (.cells c elem _) => some (elem, c.size) | _ => none) = _
    simp
  have hrun : (Conv.stringToBytes e b).run P w = .ok (.slice (some ⟨w.heap.size, 0, none⟩) (bl b).length cap) ((w.drew.alloc (.cells c e)).freeze { block := w.heap.size, off := c.size } 1) := by
    unfold Conv.stringToBytes
    simp only [Sem.run_bind, run_choose, hnf, Bool.false_eq_true, if_false, Result.andThen_ok, newRow, run_newObj, Sem.run_pure]
    show ((markStringish ⟨w.heap.size, 0, none⟩).run P (w.drew.alloc (.cells c e))).andThen _ = _
    simp only [markStringish, Sem.run_bind, run_shape, Result.andThen_ok, hshape, run_freeze, bl_length]
    rfl
  simp [execOp, ho, convert, underlying, hs, hd, he, e1, hrun]

/-- The text of a row of bytes. -/
theorem OEval.text_of {s d e : TypeId} {x : Operand} {l : List UInt8} {b : Option Addr} {n cp : Nat} {cs : List Value} {H : AH} (ho : o.op = .convert s d x) (hs : P.underlying s = some (.slice e)) (hd : P.underlying d = some .string) (he : P.underlying e = some (.int .u8)) (hx : ρ x = some (.slice b n cp))
    (hv : Src H 1 (.slice b n cp) n cs) (hl : cs = l.map fun q => .int .u8 q.toNat) : OEval P o ρ H (.string (bs l)) H := by
  refine ⟨Nat.le_refl _, fun ψ w a hw hh hn K Q hk => ?_⟩
  have e1 := hh x (by simp [ho, Op.operands]) _ hx
  obtain ⟨l1, cs', l2, l3, l4⟩ := hv.all (P := P) hw e1
  subst hl
  have hcs : cs'.toList = l.map fun q => Value.int .u8 q.toNat := by
    have : ∀ (l : List UInt8) (ys : List Value), VRs ψ (l.map fun q => Value.int .u8 q.toNat) ys → ys = l.map fun q => Value.int .u8 q.toNat := by
      intro l
      induction l with
      | nil => intro ys h; cases h; rfl
      | cons q l ih => intro ys h; cases h with | cons a b => rw [a.int_inv, ih _ b]; rfl
    exact this l _ l3
  refine wp_value (v := .string (bs l)) (w' := w) ?_ (hk _ ψ w (.string _) (.refl hw))
  have hfold : ∀ (l : List UInt8) (s : ByteArray), ((l.map fun q => (q.toNat : Int)).foldl (fun r n => r.push (UInt8.ofNat n.toNat)) s) = ⟨s.data ++ l.toArray⟩ := by
    intro l
    induction l with
    | nil => intro s; simp
    | cons q l ih => intro s; simp only [List.map_cons, List.foldl_cons]; rw [ih]; simp [ByteArray.push, UInt8.ofNat]
  obtain ⟨b', c', ex⟩ := e1.slice_inv
  have hb : (Conv.bytesToString (a.eval x)).run P w = .ok (.string (bs l)) w := by
    rw [ex] at l2 e1 ⊢
    cases b' with
    | none =>
      cases e1
      simp [Builtin.firstCells] at l2
      subst l2
      have hl0 : l = [] := by simpa using hcs.symm
      subst hl0
      simp [Conv.bytesToString, bs]; rfl
    | some b' =>
      simp only [Builtin.firstCells, Nat.mul_one] at l2
      rw [run_bytesToString w b' n c' (l.map fun q => (q.toNat : Int)) (by rw [l2]; congr 1; apply Array.toList_inj.1; rw [hcs]; simp [Function.comp])]
      rw [hfold]
      simp [bs, ByteArray.empty, ByteArray.emptyWithCapacity]; rfl
  have hc : (convert s d (a.eval x)).run P w = .ok (.string (bs l)) w := by
    rw [ex] at hb ⊢
    rw [run_convert_bytes_string w s d e b' n c' hs he hd]; exact hb
  simp [execOp, ho, hc]

end
end Go.Proofs.YtaccaelocddakaaDoor
