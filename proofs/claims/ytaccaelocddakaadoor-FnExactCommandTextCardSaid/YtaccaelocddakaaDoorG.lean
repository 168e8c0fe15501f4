/- A part of the proof: no conditions. -/
import Derived.Test.YtaccaelocddakaaDoorF
namespace Go.Proofs.YtaccaelocddakaaDoor
open Go Go.RowKit
set_option linter.unusedVariables false
set_option linter.unusedSectionVars false
variable [Tabs]

section
variable {P : Program} {ρ : Operand → Option Value} {o : Oper}

theorem zeros_flat {z : Array Value} : ∀ (a : Nat), ((Array.range (a * z.size)).map (fun i => z[i % z.size]!)).toList = (List.replicate a z.toList).flatten := by
  intro a
  induction a with
  | zero => simp
  | succ a ih =>
    have h1 : (Array.range ((a + 1) * z.size)).toList = List.range (a * z.size + z.size) := by
      rw [Array.toList_range, Nat.succ_mul]
    rw [Array.toList_map] at ih ⊢
    rw [h1, List.range_add, List.map_append]
    rw [Array.toList_range] at ih
    rw [ih, List.replicate_succ', List.flatten_append]
    congr 1
    simp only [List.flatten_cons, List.flatten_nil, List.append_nil, List.map_map]
    apply List.ext_getElem?
    intro i
    rcases Nat.lt_or_ge i z.size with g | g
    · rw [List.getElem?_map, List.getElem?_range g]
      have : (a * z.size + i) % z.size = i := by rw [Nat.mul_comm, Nat.mul_add_mod, Nat.mod_eq_of_lt g]
      simp [Function.comp, this, g]
    · rw [List.getElem?_eq_none (by simpa using g), List.getElem?_eq_none (by simpa using g)]

theorem wrap_i64 {n : Int} (h0 : 0 ≤ n) (h : n ≤ 9223372036854775807) : IntKind.i64.wrap n = n := IntWalk.i64_in n (by omega)

theorem flat_all {z : List Value} (h : z.all plainCell = true) (a : Nat) : ((List.replicate a z).flatten).all plainCell = true := by
  rw [List.all_eq_true] at h ⊢
  intro v hv
  rw [List.mem_flatten] at hv
  obtain ⟨l, hl, hv⟩ := hv
  obtain rfl := (List.mem_replicate.1 hl).2
  exact h v hv

theorem OEval.makeSlice {t e : TypeId} {x y : Operand} {n : Int} {H : AH} {z : Value} {size bytes : Nat} (ho : o.op = .makeSlice t x y) (ht : P.underlying t = some (.slice e)) (he : ElTy P e size bytes)
    (hz : ∃ ti, P.info? e = some ti ∧ ti.zero = some z) (hx : ρ x = some (.int .i64 n)) (hy : ρ y = some (.int .i64 n)) (h0 : 0 ≤ n) (hb : n * bytes ≤ 70368744177664) :
    OEval P o ρ H (.slice (some ⟨H.length, 0, none⟩) n.toNat n.toNat) (H ++ [⟨e, size, (List.replicate n.toNat z.cells.toList).flatten, .rw⟩]) := by
  refine ⟨by simp, fun ψ w a hw hh hn K Q hk => ?_⟩
  have e1 := (hh x (by simp [ho, Op.operands]) _ hx).int_inv
  have e2 := (hh y (by simp [ho, Op.operands]) _ hy).int_inv
  obtain ⟨ti, z', q1, q2, q3, q4, q5, q6⟩ := he.info
  obtain ⟨ti', hz1, hz2⟩ := hz
  rw [q1] at hz1; cases hz1
  rw [q4] at hz2; cases hz2
  have hbp := he.bpos
  have hnle : n ≤ 70368744177664 := by
    have : n * 1 ≤ n * bytes := Int.mul_le_mul_of_nonneg_left (by omega) h0
    omega
  have hwr := wrap_i64 h0 (by omega)
  obtain ⟨w', r1, r2⟩ := newRow_step (P := P) hw (hn H.length (Nat.le_refl _) (by simp)) (t := e) (esz := size) (cs := (List.replicate n.toNat z.cells.toList).flatten)
    (c := ((List.replicate n.toNat z.cells.toList).flatten).toArray) (by simpa using VRs.refl_plain (flat_all q6 _))
  have hsz : ((List.replicate n.toNat z.cells.toList).flatten).length = n.toNat * size := by simp [q5]
  refine wp_value (v := .slice (some ⟨w.heap.size, 0, none⟩) n.toNat n.toNat) (w' := w') ?_ (hk _ _ w' (VR.of_newrow Emb.put_self (Nat.le_refl _) (Nat.le_refl _) (by simp [q5])) r2)
  have hsize : ∀ w, (Go.sizeOf e).run P w = .ok size w := fun w => by simp [Go.sizeOf, typeInfo, q1, q2]
  have hzv : ∀ w, (zeroValue e).run P w = .ok z w := fun w => by simp [zeroValue, typeInfo, q1, q4]
  have hc1 : ¬ (n < 0) := by omega
  have hc2 : ¬ (281474976710656 < (bytes : Int) * n) := by rw [Int.mul_comm]; omega
  have hflat := zeros_flat (z := z.cells) n.toNat
  rw [q5] at hflat
  have hflat' : (Array.range (n.toNat * size)).map (fun i => z.cells[i % size]!) = ((List.replicate n.toNat z.cells.toList).flatten).toArray := by
    rw [← hflat]
  simp only [execOp, ho, Instr.makeSlice, e1, e2]
  by_cases hz0 : n.toNat * size = 0
  · have hp := he.pos
    have hn0 : n.toNat = 0 := by
      rcases Nat.mul_eq_zero.1 hz0 with g | g
      · exact g
      · omega
    rw [hn0] at r1
    simp [underlying, ht, asInt, asIntOf, typeInfo, q1, q3, hwr, hc1, hc2, hsize, hzv, hz0]
    simp [hn0] at r1 ⊢
    have h00 : (Array.map (fun _ => (default : Value)) (Array.range 0)) = #[] := by simp
    rw [h00, r1]; rfl
  · simp [underlying, ht, asInt, asIntOf, typeInfo, q1, q3, hwr, hc1, hc2, hsize, hzv, hz0, q5, hflat', r1]

/-- A slice of a slice. -/
theorem OEval.slice {t e : TypeId} {x : Operand} {lo hi mx : Option Operand} {b : Option Addr} {n cp size : Nat} {l h m : Int} {H : AH} (ho : o.op = .slice t x lo hi mx) (ht : P.underlying t = some (.slice e))
    (hsz : ∃ ti, P.info? e = some ti ∧ ti.size = size) (hx : ρ x = some (.slice b n cp))
    (hB : ∀ q, b = some q → ∃ B, H[q.block]? = some B ∧ B.esz = size)
    (hl : match lo with | none => l = 0 | some y => ∃ k, ρ y = some (.int k l)) (hh : match hi with | none => mx = none ∧ h = n | some y => ∃ k, ρ y = some (.int k h)) (hm : match mx with | none => m = cp | some y => ∃ k, ρ y = some (.int k m))
    (h0 : 0 ≤ l) (h1 : l ≤ h) (h2 : h ≤ m) (h3 : m ≤ cp) :
    OEval P o ρ H (.slice (if m = l then b else b.map (·.add (l.toNat * size))) (h.toNat - l.toNat) (m.toNat - l.toNat)) H := by
  refine ⟨Nat.le_refl _, fun ψ w a hw hhv hn K Q hk => ?_⟩
  have e1 := hhv x (by simp [ho, Op.operands]) _ hx
  obtain ⟨b', c', ex⟩ := e1.slice_inv
  have hcc : cp ≤ c' ∧ n ≤ cp := by rw [ex] at e1; cases e1 <;> omega
  have elo : ∀ y, lo = some y → ∃ k, a.eval y = .int k l := by
    intro y hy; subst hy; obtain ⟨k, hk⟩ := hl; exact ⟨k, (hhv y (by simp [ho, Op.operands]) _ hk).int_inv⟩
  have ehi : ∀ y, hi = some y → ∃ k, a.eval y = .int k h := by
    intro y hy; subst hy; obtain ⟨k, hk⟩ := hh; exact ⟨k, (hhv y (by simp [ho, Op.operands]) _ hk).int_inv⟩
  have emx : ∀ y, mx = some y → ∃ k, a.eval y = .int k m := by
    intro y hy; subst hy; obtain ⟨k, hk⟩ := hm; exact ⟨k, (hhv y (by simp [ho, Op.operands]) _ hk).int_inv⟩
  obtain ⟨ti, hi1, hi2⟩ := hsz
  have hsize : ∀ w, (Go.sizeOf e).run P w = .ok size w := fun w => by simp [Go.sizeOf, typeInfo, hi1, hi2]
  -- the machine's answer
  obtain ⟨M, hM1, hM2⟩ : ∃ M : Nat, (match mx with | none => M = c' | some _ => (M : Int) = m) ∧ m ≤ M := by
    cases mx with
    | none => exact ⟨c', rfl, by simp only at hm; omega⟩
    | some y => exact ⟨m.toNat, by simp only; omega, by omega⟩
  have hrun : (execOp a.eval o).run P w = .ok (.value (.slice (if M = l.toNat then b' else b'.map (·.add (l.toNat * size))) (h.toNat - l.toNat) (M - l.toNat))) w := by
    have c1 : 0 ≤ h := by omega
    have c2 : 0 ≤ m := by omega
    have c3 : h ≤ (M : Int) := by omega
    have c4 : l ≤ (h.toNat : Int) := by omega
    have c5 : ¬ (max h 0 < l) := by omega
    have c6 : m ≤ (c' : Int) := by omega
    have c7 : h ≤ (m.toNat : Int) := by omega
    have c8 : h ≤ max m 0 := by omega
    have bnd : (Instr.sliceBounds true n c' (lo.map a.eval) (hi.map a.eval) (mx.map a.eval)).run P w = .ok (l.toNat, h.toNat, M) w := by
      have b1 : ∀ k code, (Instr.sliceBound (.int k h) M code).run P w = .ok h.toNat w := fun k code => by simp [Instr.sliceBound, asIntOf, c1, c3]
      have b2 : ∀ k code, (Instr.sliceBound (.int k l) h.toNat code).run P w = .ok l.toNat w := fun k code => by
        have : (0 ≤ l ∧ l ≤ (h.toNat : Int)) := ⟨h0, c4⟩
        simp only [Instr.sliceBound, asIntOf, pure_bind, this, and_self, if_true, Sem.run_pure]
      have b3 : ∀ k code, (Instr.sliceBound (.int k m) c' code).run P w = .ok m.toNat w := fun k code => by simp [Instr.sliceBound, asIntOf, c2, c6]
      have b4 : h.toNat = n → ∀ k code, (Instr.sliceBound (.int k l) n code).run P w = .ok l.toNat w := fun hh k code => by rw [← hh]; exact b2 k code
      cases mx with
      | none =>
        simp only at hM1; subst hM1
        cases hi with
        | none =>
          simp only [true_and] at hh; subst hh
          cases lo with
          | none => simp only at hl; subst hl; simp [Instr.sliceBounds]
          | some y => obtain ⟨k, hk⟩ := elo y rfl; simp [Instr.sliceBounds, hk, b4]
        | some z =>
          obtain ⟨k2, hk2⟩ := ehi z rfl
          cases lo with
          | none => simp only at hl; subst hl; simp [Instr.sliceBounds, hk2, b1]
          | some y => obtain ⟨k, hk⟩ := elo y rfl; simp [Instr.sliceBounds, hk, hk2, b1, b2]
      | some q =>
        obtain ⟨k3, hk3⟩ := emx q rfl
        simp only at hM1
        obtain rfl : M = m.toNat := by omega
        cases hi with
        | none => simp at hh
        | some z =>
          obtain ⟨k2, hk2⟩ := ehi z rfl
          cases lo with
          | none => simp only at hl; subst hl; simp [Instr.sliceBounds, hk2, hk3, b1, b3]
          | some y => obtain ⟨k, hk⟩ := elo y rfl; simp [Instr.sliceBounds, hk, hk2, hk3, b1, b2, b3]
    simp [execOp, ho, Instr.sliceAt, Instr.slice, underlying, ht, ex, bnd, hsize]
  refine wp_value hrun (hk _ ψ w ?_ (.refl hw))
  rw [ex] at e1
  cases e1 with
  | snil =>
    have : M = l.toNat := by
      cases mx with
      | none => simp only at hM1; omega
      | some _ => simp only at hM1; omega
    have e2 : m = l := by omega
    have e3 : h.toNat - l.toNat = 0 := by omega
    simp only [this, e2, if_true, e3, Nat.sub_self]
    exact .snil
  | snilE =>
    have : M = l.toNat := by
      cases mx with
      | none => simp only at hM1; omega
      | some _ => simp only at hM1; omega
    have e2 : m = l := by omega
    have e3 : h.toNat - l.toNat = 0 := by omega
    simp only [this, e2, if_true, e3, Nat.sub_self]
    exact .snilE
  | sl hL g0 g1 g2 g3 =>
    rename_i id L j
    obtain ⟨B, hB1, hB2⟩ := hB _ rfl
    have hez : L.esz = size := (hw.cells _ _ _ hL hB1).1.trans hB2
    have hMc : M ≤ c' := by
      cases mx with
      | none => simp only at hM1; omega
      | some _ => simp only at hM1; omega
    by_cases hml : m = l
    · -- nothing is left
      have e3 : h.toNat - l.toNat = 0 := by omega
      have e4 : m.toNat - l.toNat = 0 := by omega
      rw [if_pos hml, e3, e4]
      have hlim : L.o + j + l.toNat * size + (M - l.toNat) * L.esz ≤ L.lim := by
        have : l.toNat * size + (M - l.toNat) * L.esz = M * L.esz := by rw [hez, ← Nat.add_mul]; congr 1; omega
        have : M * L.esz ≤ c' * L.esz := Nat.mul_le_mul_right _ hMc
        omega
      by_cases hMl : M = l.toNat
      · rw [if_pos hMl]; exact .sl0 hL (by omega)
      · rw [if_neg hMl]; simp only [Option.map_some, Addr.add_eq]; exact .sl0 hL (by omega)
    · rw [if_neg hml, if_neg (by omega)]
      simp only [Option.map_some, Addr.add_eq]
      have hlim : L.o + (j + l.toNat * size) + (M - l.toNat) * L.esz ≤ L.lim := by
        have : l.toNat * size + (M - l.toNat) * L.esz = M * L.esz := by rw [hez, ← Nat.add_mul]; congr 1; omega
        have : M * L.esz ≤ c' * L.esz := Nat.mul_le_mul_right _ hMc
        omega
      rw [Nat.add_assoc L.o]
      exact .sl hL (by omega) (by omega) (by omega) hlim
  | sl0 hL g3 =>
    rename_i id L j j'
    obtain ⟨B, hB1, hB2⟩ := hB _ rfl
    have hez : L.esz = size := (hw.cells _ _ _ hL hB1).1.trans hB2
    have hml : m = l := by omega
    have hl0 : l = 0 := by omega
    have e3 : h.toNat - l.toNat = 0 := by omega
    have e4 : m.toNat - l.toNat = 0 := by omega
    rw [if_pos hml, e3, e4]
    have hMc : M ≤ c' := by
      cases mx with
      | none => simp only at hM1; omega
      | some _ => simp only at hM1; omega
    have : M * L.esz ≤ c' * L.esz := Nat.mul_le_mul_right _ hMc
    subst hl0
    by_cases hMl : M = (0 : Int).toNat
    · rw [if_pos hMl]; exact .sl0 hL (by simp; omega)
    · rw [if_neg hMl]; simp only [Option.map_some, Addr.add_eq]; exact .sl0 hL (by simp; omega)

/-- A call of a function of the program. -/
theorem OEval.call {c : Call} {fx : Operand} {k : FuncId} {fn : Func} {bd : Code} {us cs : Array Value} {vs : List Value} {H H' : AH} {v : Value} (ho : o.op = .call c) (hc : c.callee = .value fx) (hf : ρ fx = some (.func (.func k) us cs))
    (ha : c.args.toList.map ρ = vs.map some) (hk : P.funcs[k]? = some fn) (hb : fn.body = some bd) (hne : (fn.name == "runtime.NumGoroutine") = false) (h : AEval P k (us.toList ++ vs ++ cs.toList) H v H') : OEval P o ρ H v H' := by
  refine ⟨h.1, fun ψ w a hw hh hn K Q hkk => ?_⟩
  have e1 := hh fx (by simp [ho, Op.operands, Call.operands, hc]) _ hf
  cases e2 : a.eval fx <;> rw [e2] at e1 <;> cases e1
  rename_i us' cs' hus hcs
  have hvs : VRs ψ vs (c.args.toList.map a.eval) := by
    have gen : ∀ (xs : List Operand) (ws : List Value), (∀ x ∈ xs, x ∈ o.op.operands) → xs.map ρ = ws.map some → VRs ψ ws (xs.map a.eval) := by
      intro xs
      induction xs with
      | nil => intro ws _ h; cases ws with | nil => exact .nil | cons => simp at h
      | cons x xs ih =>
        intro ws hm h
        cases ws with
        | nil => simp at h
        | cons y ws => simp at h; exact .cons (hh x (hm x (by simp)) y h.1) (ih ws (fun z hz => hm z (by simp [hz])) h.2)
    exact gen _ _ (by intro x hx; simp [ho, Op.operands, Call.operands, hc]; right; simpa using hx) ha
  have hcall := h.2 ψ w (us' ++ c.args.map a.eval ++ cs') hw (by simpa using (hus.append hvs).append hcs) hn
  have hrun : (execOp a.eval o).run P w = .ok (.enter k (us' ++ c.args.map a.eval ++ cs')) w := by
    simp [execOp, ho, resolve, hc, e2, Deferred.ofValue, invoke, callFunc, hk]
    simp at hne
    simp [hne, hb]
  simp only [Oper.wp, hrun, Oper.upon]
  refine hcall.mono ?_
  rintro e w' ⟨v', ψ', rfl, h1, h2⟩
  exact hkk v' ψ' w' h1 h2

end
end Go.Proofs.YtaccaelocddakaaDoor
