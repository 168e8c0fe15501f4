/- A part of the proof: no conditions. -/
import Derived.Test.YtaccaelocddakaaDoorE
namespace Go.Proofs.YtaccaelocddakaaDoor
open Go Go.RowKit
set_option linter.unusedVariables false
set_option linter.unusedSectionVars false
variable [Tabs]

section
variable {P : Program} {ρ : Operand → Option Value} {o : Oper}

/-- A source of cells: the value, how many elements, the cells. -/
inductive Src (H : AH) (size : Nat) : Value → Nat → List Value → Prop
  | nil : Src H size (.slice none 0 0) 0 []
  | sl {id j n c : Nat} {B : Blk} (hB : H[id]? = some B) (hd : B.st ≠ .dead) (hle : j + n * size ≤ B.cells.length) : Src H size (.slice (some ⟨id, j, none⟩) n c) n ((B.cells.drop j).take (n * size))
  | str (s : ByteArray) (h : size = 1) : Src H size (.string s) (bl s).length ((bl s).map fun b => .int .u8 b.toNat)

theorem Src.run {ψ : Emb} {H : AH} {w : World} (hw : WR ψ H w) {size : Nat} {x x' : Value} {n : Nat} {cs : List Value} (h : Src H size x n cs) (hx : VR ψ x x') :
    (Builtin.lenOf x').run P w = .ok n w ∧ (∀ k, k ≤ n → ∃ cs', (Builtin.firstCells size k x').run P w = .ok cs' w ∧ VRs ψ (cs.take (k * size)) cs'.toList) ∧ cs.length = n * size := by
  cases h with
  | nil =>
    cases hx with
    | snil => exact ⟨by simp [Builtin.lenOf], fun k hk => ⟨#[], by simp [Builtin.firstCells], by simp; exact .nil⟩, by simp⟩
    | snilE =>
      refine ⟨by simp [Builtin.lenOf], fun k hk => ⟨#[], ?_, by simp; exact .nil⟩, by simp⟩
      obtain rfl : k = 0 := by omega
      simp [Builtin.firstCells, loadCells, loadCellsFrom]
  | sl hB hd hle =>
    rename_i id j c B
    cases hx with
    | sl hL a1 a2 a3 a4 =>
      rename_i L c'
      obtain ⟨d, fr, g1, g2, g3, g4, g5, g6⟩ := hw.some_live hL hB hd
      refine ⟨by simp [Builtin.lenOf], fun k hk => ?_, by simp; omega⟩
      have hkn : k * size ≤ n * size := Nat.mul_le_mul_right _ hk
      refine ⟨_, by simp only [Builtin.firstCells]; exact loadCells_run g1 _ (by omega), ?_⟩
      have := take_drop_rel (c := d.toList) (off := L.o) (j := j) (n := k * size) (by simpa using g5) (by omega) (by simp; omega)
      simpa [List.take_take, Nat.min_eq_left hkn] using this
    | sl0 hL a1 =>
      refine ⟨by simp [Builtin.lenOf], fun k hk => ⟨#[], ?_, by simp; exact .nil⟩, by simp⟩
      obtain rfl : k = 0 := by omega
      simp [Builtin.firstCells, loadCells, loadCellsFrom]
  | str s h =>
    subst h
    cases hx
    refine ⟨by simp [Builtin.lenOf, bl_length], fun k hk => ⟨((s.extract 0 k).data.map fun b => Value.int .u8 b.toNat), by simp only [Builtin.firstCells, Sem.run_pure], ?_⟩, by simp⟩
    have : ((s.extract 0 k).data.map fun b => Value.int .u8 b.toNat).toList = ((bl s).map fun b => Value.int .u8 b.toNat).take (k * 1) := by
      simp [bl, ByteArray.data_extract, List.extract_eq_take_drop]
    rw [this]
    exact VRs.refl_plain (by rw [List.all_eq_true]; intro v hv; have := List.mem_of_mem_take hv; simp at this; obtain ⟨b, _, rfl⟩ := this; rfl)

theorem Src.all {ψ : Emb} {H : AH} {w : World} (hw : WR ψ H w) {size : Nat} {x x' : Value} {n : Nat} {cs : List Value} (h : Src H size x n cs) (hx : VR ψ x x') :
    (Builtin.lenOf x').run P w = .ok n w ∧ ∃ cs', (Builtin.firstCells size n x').run P w = .ok cs' w ∧ VRs ψ cs cs'.toList ∧ cs.length = n * size := by
  obtain ⟨h1, h2, h3⟩ := h.run (P := P) hw hx
  obtain ⟨cs', q1, q2⟩ := h2 n (Nat.le_refl _)
  rw [List.take_of_length_le (by omega)] at q2
  exact ⟨h1, cs', q1, q2, h3⟩

/-- A type as an element: its cells, its bytes, its zero. -/
structure ElTy (P : Program) (e : TypeId) (size bytes : Nat) : Prop where
  info : ∃ ti z, P.info? e = some ti ∧ ti.size = size ∧ ti.bytes = bytes ∧ ti.zero = some z ∧ z.cells.size = size ∧ z.cells.toList.all plainCell = true
  pos : 0 < size
  bpos : 0 < bytes
  small : bytes ≤ 1000000

theorem args2 {c : Call} {x y : Operand} (ha : c.args = #[x, y]) (hc : c.callee = .builtin .append) (ho : o.op = .call c) : x ∈ o.op.operands ∧ y ∈ o.op.operands := by
  simp [ho, Op.operands, Call.operands, hc, ha]

theorem run_append_in {t u e T : TypeId} {d : TypeDesc} (ht : P.underlying t = some (.slice e)) (hu : P.underlying u = some d) (hd : (∃ e2, d = .slice e2) ∨ d = .string) {size bytes : Nat} (he : ElTy P e size bytes)
    {b' : Option Addr} {n c' m : Nat} {y : Value} {w w' : World} {new : Array Value} (hlen : (Builtin.lenOf y).run P w = .ok m w) (hfit : n + m ≤ c') (hnew : (Builtin.firstCells size m y).run P w = .ok new w)
    (hst : match b' with | some q => (storeCells (q.add (n * size)) new.toList).run P w = .ok () w' | none => w' = w) :
    (Builtin.append_ #[t, u] T #[.slice b' n c', y]).run P w = .ok (.slice b' (n + m) c') w' := by
  obtain ⟨ti, z, q1, q2, q3, q4, q5, q6⟩ := he.info
  have hs : ∀ w, (Go.sizeOf e).run P w = .ok size w := fun w => by simp [Go.sizeOf, typeInfo, q1, q2]
  have hu1 : ∀ w, (underlying t).run P w = .ok (.slice e) w := fun w => by simp [underlying, ht]
  have hu2 : ∀ w, (underlying u).run P w = .ok d w := fun w => by simp [underlying, hu]
  unfold Builtin.append_
  rcases hd with ⟨e2, rfl⟩ | rfl
  all_goals
    simp [hu1, hu2, hs, hlen, hfit, hnew]
    cases b' with
    | none => simp only at hst; subst hst; simp
    | some q => simp only at hst; simp [hst]

theorem run_append_out {t u e T : TypeId} {d : TypeDesc} (ht : P.underlying t = some (.slice e)) (hu : P.underlying u = some d) (hd : (∃ e2, d = .slice e2) ∨ d = .string) {size bytes : Nat} (he : ElTy P e size bytes)
    {b' : Option Addr} {n c' m : Nat} {y : Value} {w : World} {old new : Array Value} (hlen : (Builtin.lenOf y).run P w = .ok m w) (hfit : ¬ n + m ≤ c') (hsmall : (n + m) * bytes ≤ 70368744177664)
    (hold : (Builtin.firstCells size n (.slice b' n c')).run P w.drew = .ok old w.drew)
    (hnew : (Builtin.firstCells size m y).run P w.drew = .ok new w.drew) :
    ∃ rest newCap, n + m ≤ newCap ∧ rest.size = (newCap - (n + m)) * size ∧ (Builtin.append_ #[t, u] T #[.slice b' n c', y]).run P w =
      .ok (.slice (some ⟨w.heap.size, 0, none⟩) (n + m) newCap) (w.drew.alloc (.cells (old ++ new ++ rest) e)) := by
  obtain ⟨ti, z, q1, q2, q3, q4, q5, q6⟩ := he.info
  have hs : ∀ w, (Go.sizeOf e).run P w = .ok size w := fun w => by simp [Go.sizeOf, typeInfo, q1, q2]
  have hti : ∀ w, (typeInfo e).run P w = .ok ti w := fun w => by simp [typeInfo, q1]
  have hzv : ∀ w, (zeroValue e).run P w = .ok z w := fun w => by simp [zeroValue, typeInfo, q1, q4]
  have hu1 : ∀ w, (underlying t).run P w = .ok (.slice e) w := fun w => by simp [underlying, ht]
  have hu2 : ∀ w, (underlying u).run P w = .ok d w := fun w => by simp [underlying, hu]
  have hfits : ¬ (2 ^ 48 < Builtin.nextslicecap (n + m) c' * bytes) := by
    have := growslice_fits (need := n + m) (old := c') (bytes := bytes) (by omega) (by omega)
    omega
  have hmax : IntKind.i64.max = 9223372036854775807 := by decide
  have hb := he.bpos
  refine ⟨Builtin.zeroCells z.cells ((Question.appendCap (n + m) c' e).cut (w.tape w.drawn (Question.appendCap (n + m) c' e)) - (n + m)), (Question.appendCap (n + m) c' e).cut (w.tape w.drawn (Question.appendCap (n + m) c' e)), ?_, ?_, ?_⟩
  · simp [Question.cut]
  · simp [Builtin.zeroCells, q5]
  · have hnf : (Question.appendCap (n + m) c' e).forced = false := rfl
    unfold Builtin.append_
    have e1 : ¬ (bytes = 0) := by omega
    rcases hd with ⟨e2, rfl⟩ | rfl
    all_goals
      simp [hu1, hu2, hs, hti, hlen, q3, if_neg hfit, e1, hfits, hnf, hold, hnew, hzv, newRow]

theorem ops_append {c : Call} {x y : Operand} (ho : o.op = .call c) (hc : c.callee = .builtin .append) (ha : c.args = #[x, y]) : x ∈ o.op.operands ∧ y ∈ o.op.operands := by
  simp [ho, Op.operands, Call.operands, hc, ha]

theorem exec_append {c : Call} {x y : Operand} {t u : TypeId} (ho : o.op = .call c) (hc : c.callee = .builtin .append) (ha : c.args = #[x, y]) (hat : c.argTypes = #[t, u]) {σ : Operand → Value} {w w' : World} {v : Value}
    (h : (Builtin.append_ #[t, u] o.type #[σ x, σ y]).run P w = .ok v w') : (execOp σ o).run P w = .ok (.value v) w' := by
  simp [execOp, ho, resolve, hc, ha, invoke, builtin, hat, h]

/-- Nothing is appended. -/
theorem OEval.append_zero {c : Call} {x y : Operand} {t u e : TypeId} {d : TypeDesc} {H : AH} {b : Option Addr} {n cp : Nat} {yv : Value} {cs : List Value} (ho : o.op = .call c) (hc : c.callee = .builtin .append) (ha : c.args = #[x, y]) (hat : c.argTypes = #[t, u])
    (ht : P.underlying t = some (.slice e)) (hu : P.underlying u = some d) (hd : (∃ e2, d = .slice e2) ∨ d = .string) {size bytes : Nat} (he : ElTy P e size bytes)
    (hx : ρ x = some (.slice b n cp)) (hy : ρ y = some yv) (hs : Src H size yv 0 cs) : OEval P o ρ H (.slice b n cp) H := by
  refine ⟨Nat.le_refl _, fun ψ w a hw hh hn K Q hk => ?_⟩
  obtain ⟨m1, m2⟩ := ops_append ho hc ha
  have e1 := hh x m1 _ hx
  have e2 := hh y m2 _ hy
  obtain ⟨l1, cs', l2, l3, l4⟩ := hs.all (P := P) hw e2
  have l5 : cs' = #[] := by have := l3.length; rw [l4] at this; simp at this; simpa using this.symm
  subst l5
  obtain ⟨b', c', ex⟩ := e1.slice_inv
  have hnc : n ≤ c' := by rw [ex] at e1; cases e1 <;> omega
  refine wp_value (v := .slice b' n c') (w' := w) (exec_append ho hc ha hat ?_) (hk _ ψ w (ex ▸ e1) (.refl hw))
  rw [ex]
  exact run_append_in ht hu hd he l1 hnc l2 (by cases b' <;> simp [storeCells])

/-- The abstract heap behind an append that makes room: the base's block is not looked at any more. -/
def grown (H : AH) (b : Option Addr) (B : Blk) : AH :=
  match b with
  | none => H ++ [B]
  | some a => match H[a.block]? with
    | some B0 => H.set a.block (kill B0) ++ [B]
    | none => H ++ [B]

theorem grown_length (H : AH) (b : Option Addr) (B : Blk) : (grown H b B).length = H.length + 1 := by
  unfold grown; split <;> (try split) <;> simp

/-- Elements are appended, and new room is made, as far as anybody can tell. -/
theorem OEval.append_grow {c : Call} {x y : Operand} {t u e : TypeId} {d : TypeDesc} {H : AH} {b : Option Addr} {n cp m : Nat} {yv : Value} {cs os : List Value} (ho : o.op = .call c) (hc : c.callee = .builtin .append) (ha : c.args = #[x, y]) (hat : c.argTypes = #[t, u])
    (ht : P.underlying t = some (.slice e)) (hu : P.underlying u = some d) (hd : (∃ e2, d = .slice e2) ∨ d = .string) {size bytes : Nat} (he : ElTy P e size bytes)
    (hx : ρ x = some (.slice b n cp)) (hy : ρ y = some yv) (hs : Src H size yv m cs) (hb : Src H size (.slice b n cp) n os)
    (hrw : ∀ q, b = some q → ∃ B, H[q.block]? = some B ∧ B.st = .rw ∧ B.el = e ∧ B.esz = size) (hoc : cs.all oneCell = true) (hroom : cp < n + m) (hsmall : (n + m) * bytes ≤ 70368744177664) :
    OEval P o ρ H (.slice (some ⟨H.length, 0, none⟩) (n + m) (n + m)) (grown H b ⟨e, size, os ++ cs, .rw⟩) := by
  refine ⟨by rw [grown_length]; omega, fun ψ w a hw hh hn K Q hk => ?_⟩
  have hnone : ψ H.length = none := hn _ (Nat.le_refl _) (by rw [grown_length]; omega)
  obtain ⟨m1, m2⟩ := ops_append ho hc ha
  have e1 := hh x m1 _ hx
  have e2 := hh y m2 _ hy
  obtain ⟨l1, cs', l2, l3, l4⟩ := hs.all (P := P) hw e2
  obtain ⟨p1, os', p2, p3, p4⟩ := hb.all (P := P) hw e1
  obtain ⟨_, cs2, l2', l3'⟩ := hs.all (P := P) (hw.drew (w.drawn + 1)) e2
  obtain ⟨_, os2, p2', p3'⟩ := hb.all (P := P) (hw.drew (w.drawn + 1)) e1
  have hc3 := l3.length
  have hp3 := p3.length
  obtain ⟨b', c', ex⟩ := e1.slice_inv
  have hsz := he.pos
  by_cases hfit : n + m ≤ c'
  · -- in place
    have hbs : ∃ id j, b = some ⟨id, j, none⟩ := by
      cases hb with
      | nil => rw [ex] at e1; cases e1 <;> omega
      | sl => exact ⟨_, _, rfl⟩
    obtain ⟨id, j, rfl⟩ := hbs
    obtain ⟨B, hB, hst, hel, hez⟩ := hrw _ rfl
    simp only at hB
    have hform : ∃ L jj, ψ id = some L ∧ b' = some ⟨L.b, jj, none⟩ ∧ jj + c' * L.esz ≤ L.lim ∧ (n = 0 ∨ jj = L.o + j) := by
      rw [ex] at e1
      cases e1 with
      | sl h0 _ _ _ h4 => exact ⟨_, _, h0, rfl, h4, .inr rfl⟩
      | sl0 h0 h3 => exact ⟨_, _, h0, rfl, h3, .inl rfl⟩
    obtain ⟨L, jj, hL, rfl, hlim, hjj⟩ := hform
    obtain ⟨dd, fr, g1, g2, g3, g4, g5, g6⟩ := hw.some_live hL hB (by rw [hst]; decide)
    have hezL : L.esz = size := g3.trans hez
    rw [hezL] at hlim
    have hmul : (n + m) * size ≤ c' * size := Nat.mul_le_mul_right _ hfit
    have hmul2 : (n + m) * size = n * size + m * size := Nat.add_mul _ _ _
    have hoc' : ∀ v ∈ cs'.toList, oneCell v = true := l3.oneCell (by rw [List.all_eq_true] at hoc; exact hoc)
    have hrun := storeCells_run (P := P) (b := L.b) (o := jj + n * size) cs'.toList 0 w dd g1 (by rw [g2]; exact g6 hst) (by simp at hc3 ⊢; omega) hoc'
    refine wp_value (v := .slice (some ⟨L.b, jj, none⟩) (n + m) c') (w' := putBlk w L.b (over dd.toList (jj + n * size) cs'.toList).toArray B.el fr) (exec_append ho hc ha hat ?_) (hk _ (ψ.put H.length ⟨L.b, jj, L.lim, L.esz⟩) _ ?_ ?_)
    · rw [ex]
      exact run_append_in ht hu hd he l1 hfit l2 (by simp only [Addr.add_eq]; simpa using hrun)
    · have := VR.sl (ψ := ψ.put H.length ⟨L.b, jj, L.lim, L.esz⟩) (id := H.length) (j := 0) (L := ⟨L.b, jj, L.lim, L.esz⟩) (n := n + m) (c := n + m) (c' := c') Emb.put_self (by omega) (Nat.le_refl _) hfit (by simp only; rw [hezL]; omega)
      simpa using this
    · have hgr : grown H (some ⟨id, j, none⟩) ⟨e, size, os ++ cs, .rw⟩ = H.set id (kill B) ++ [⟨B.el, B.esz, os ++ cs, .rw⟩] := by
        simp [grown, hB, hel, hez]
      rw [hgr]
      refine Step.regrow hw hnone hL hB hst g1 g2 (by simp [over_length]) (o' := jj) (by simp at hc3 hp3 ⊢; omega) (g6 hst) ?_
      intro i v hv
      rw [List.getElem?_append] at hv
      have hov := over_get dd.toList (jj + n * size) cs'.toList (jj + i) (by simp at hc3 ⊢; omega)
      simp only [List.size_toArray, List.getElem?_toArray] at hov ⊢
      rw [hov]
      by_cases hi : i < os.length
      · rw [if_pos hi] at hv
        rw [if_neg (by omega)]
        have hn0 : n ≠ 0 := by rintro rfl; omega
        obtain rfl : jj = L.o + j := hjj.resolve_left hn0
        cases hb with
        | sl hB' hd' hle' =>
          rw [hB] at hB'; cases hB'
          rw [List.getElem?_take] at hv
          split at hv
          · rw [List.getElem?_drop] at hv
            obtain ⟨v', r1, r2⟩ := g5 _ _ hv
            exact ⟨v', by simpa [Nat.add_assoc] using r1, r2⟩
          · cases hv
      · rw [if_neg hi] at hv
        obtain ⟨v', r1, r2⟩ := l3.get _ _ hv
        have hlt : i - os.length < cs.length := by
          rcases Nat.lt_or_ge (i - os.length) cs.length with g | g
          · exact g
          · simp [List.getElem?_eq_none g] at hv
        rw [if_pos (by omega)]
        exact ⟨v', by rw [show jj + i - (jj + n * size) = i - os.length by omega]; exact r1, r2⟩
  · -- a new block
    have w1 : ({ w with drawn := w.drawn + 1 } : World) = w.drew := rfl
    rw [w1] at l2' p2'
    rw [ex] at p2'
    obtain ⟨rest, nc, q1, q2, q3⟩   := run_append_out (T := o.type) ht hu hd he l1 hfit hsmall p2' l2'
    have hmul2 : (n + m) * size = n * size + m * size := Nat.add_mul _ _ _
    obtain ⟨l3a, l3b⟩ := l3'
    obtain ⟨p3a, p3b⟩ := p3'
    have hs1 := l3a.length
    have hs2 := p3a.length
    simp at hs1 hs2
    have hsize : (os2 ++ cs2 ++ rest).size = nc * size := by
      simp only [Array.size_append, q2]
      have : nc * size = (n + m) * size + (nc - (n + m)) * size := by rw [← Nat.add_mul]; congr 1; omega
      omega
    have hrel : ∀ (i : Nat) (v : Value), (os ++ cs)[i]? = some v → ∃ v', (os2 ++ cs2 ++ rest)[i]? = some v' ∧ VR ψ v v' := by
      intro i v hv
      obtain ⟨v', r1, r2⟩ := (p3a.append l3a).get i v hv
      have hlt : i < (os2 ++ cs2).size := by
        rcases Nat.lt_or_ge i (os2 ++ cs2).size with g | g
        · exact g
        · have : (os2.toList ++ cs2.toList).length ≤ i := by simpa using g
          rw [List.getElem?_eq_none this] at r1; cases r1
      exact ⟨v', by rw [Array.getElem?_append_left hlt, ← Array.getElem?_toList]; simpa using r1, r2⟩
    have hle : (os ++ cs).length ≤ (os2 ++ cs2 ++ rest).size := by simp; omega
    have hold : ∃ H0 : AH, H0.length = H.length ∧ Step ψ H w ψ H0 w ∧ grown H b ⟨e, size, os ++ cs, .rw⟩ = H0 ++ [⟨e, size, os ++ cs, .rw⟩] := by
      cases b with
      | none => exact ⟨H, rfl, .refl hw, rfl⟩
      | some q =>
        obtain ⟨B, hB, _⟩ := hrw q rfl
        exact ⟨H.set q.block (kill B), by simp, Step.kill hw hB, by simp [grown, hB]⟩
    obtain ⟨H0, h01, h02, h03⟩ := hold
    have hst : Step ψ H0 w (ψ.put H0.length ⟨w.heap.size, 0, (os2 ++ cs2 ++ rest).size, size⟩) (H0 ++ [⟨e, size, os ++ cs, .rw⟩]) (w.drew.alloc (.cells (os2 ++ cs2 ++ rest) e)) :=
      Step.alloc h02.wr (by rw [h01]; exact hnone) (fr := (0, 0)) rfl rfl rfl rfl hle (by intro k _; simp) hrel
    have hst2 := h02.trans hst
    rw [← h03, h01] at hst2
    refine wp_value (v := .slice (some ⟨w.heap.size, 0, none⟩) (n + m) nc) (w' := w.drew.alloc (.cells (os2 ++ cs2 ++ rest) e)) (exec_append ho hc ha hat ?_) (hk _ _ _ (VR.of_newrow Emb.put_self (Nat.le_refl _) q1 (by omega)) hst2)
    rw [ex]; exact q3

end
end Go.Proofs.YtaccaelocddakaaDoor
