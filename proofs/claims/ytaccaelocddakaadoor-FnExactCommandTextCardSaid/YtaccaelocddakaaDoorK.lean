/- A part of the proof: no conditions. -/
import Derived.Test.YtaccaelocddakaaDoorJ
namespace Go.Proofs.YtaccaelocddakaaDoor
open Go Go.RowKit
set_option linter.unusedVariables false
set_option linter.unusedSectionVars false
variable [Tabs]

/-! ### A function's call -/

/-- What stands in a result's place. -/
inductive ResA (P : Program) (T : AF) (H : AH) : ResultVar → Value → Prop
  | tmp {t : Nat} {v : Value} (h : T.get t = some v) : ResA P T H (.tmp t) v
  | cell {a t id j : Nat} {B : Blk} {v : Value} (h : T.get a = some (.pointer (some ⟨id, j, none⟩))) (ht : Ty P t 1 false) (hB : H[id]? = some B) (hd : B.st ≠ .dead) (hv : B.cells[j]? = some v) : ResA P T H (.cell a t) v
  | cells {a t id j n : Nat} {B : Blk} (h : T.get a = some (.pointer (some ⟨id, j, none⟩))) (ht : Ty P t n true) (hB : H[id]? = some B) (hd : B.st ≠ .dead) (hv : j + n ≤ B.cells.length) : ResA P T H (.cell a t) (.agg ((B.cells.drop j).take n).toArray)
inductive ResAs (P : Program) (T : AF) (H : AH) : List ResultVar → List Value → Prop
  | nil : ResAs P T H [] []
  | cons {r : ResultVar} {v : Value} {rs : List ResultVar} {vs : List Value} (h : ResA P T H r v) (t : ResAs P T H rs vs) : ResAs P T H (r :: rs) (v :: vs)

def one (vs : List Value) : Value := match vs with | [v] => v | vs => .tuple vs.toArray

def resOf (tmps : Array Value) : ResultVar → Sem Value
  | .tmp t => pure (tmps.getD t undef)
  | .cell a t => do loadVar t (← asAddr (tmps.getD a undef))

theorem ResA.run {P : Program} {T : AF} {H : AH} {r : ResultVar} {v : Value} (h : ResA P T H r v) {ψ : Emb} {w : World} {a : Act} (hw : WR ψ H w) (hf : FR ψ T a) :
    ∃ v', (resOf a.tmps r).run P w = .ok v' w ∧ VR ψ v v' := by
  cases h with
  | tmp h =>
    obtain ⟨v', h1, h2⟩ := hf.2.2 _ _ h
    exact ⟨v', by simp [resOf, h1], h2⟩
  | cell h ht hB hd hv =>
    obtain ⟨p, h1, h2⟩ := hf.2.2 _ _ h
    obtain ⟨L, hL, rfl⟩ := h2.ptr_inv
    obtain ⟨c, fr, g1, g2, g3, g4, g5, g6⟩ := hw.some_live hL hB hd
    obtain ⟨v', q1, q2⟩ := g5 _ v hv
    refine ⟨v', ?_, q2⟩
    have hc : ∀ k, c[k]? = some v' → w.cell? ⟨L.b, k, none⟩ = some v' := fun k hk => by rw [cell_of g1]; exact hk
    simp [resOf, h1, asAddr, loadVar, ht.isAgg w, hc _ q1]
  | cells h ht hB hd hv =>
    obtain ⟨p, h1, h2⟩ := hf.2.2 _ _ h
    obtain ⟨L, hL, rfl⟩ := h2.ptr_inv
    obtain ⟨c, fr, g1, g2, g3, g4, g5, g6⟩ := hw.some_live hL hB hd
    rename_i j n B
    have hrun := loadCells_run (P := P) (o := L.o + j) g1 n (by omega)
    refine ⟨.agg ((c.toList.drop (L.o + j)).take n).toArray, ?_, .agg ?_⟩
    · simp [resOf, h1, asAddr, loadVar, ht.isAgg w, ht.sizeOf w, hrun]
    · simpa using take_drop_rel (c := c.toList) (off := L.o) (j := j) (n := n) (by simpa using g5) hv (by simp; omega)

theorem ResAs.run {P : Program} {T : AF} {H : AH} {ψ : Emb} {w : World} {a : Act} (hw : WR ψ H w) (hf : FR ψ T a) : ∀ {rs : List ResultVar} {vs : List Value}, ResAs P T H rs vs →
    ∃ vs', (rs.mapM (resOf a.tmps)).run P w = .ok vs' w ∧ VRs ψ vs vs'
  | _, _, .nil => ⟨[], by simp, .nil⟩
  | _, _, .cons h t => by
    obtain ⟨v', h1, h2⟩ := h.run hw hf
    obtain ⟨vs', h3, h4⟩ := ResAs.run hw hf t
    exact ⟨v' :: vs', by simp [h1, h3], .cons h2 h4⟩

theorem results_run {P : Program} {fn : Func} {T : AF} {H : AH} {ψ : Emb} {w : World} {a : Act} {vs : List Value} (hw : WR ψ H w) (hf : FR ψ T a) (h : ResAs P T H fn.results.toList vs) :
    ∃ v', (results fn a.tmps).run P w = .ok v' w ∧ VR ψ (one vs) v' := by
  obtain ⟨vs', h1, h2⟩ := h.run hw hf
  have e : results fn a.tmps = (do let vs ← fn.results.mapM (resOf a.tmps); pure (if h : vs.size = 1 then vs[0] else .tuple vs)) := by
    unfold results; congr 1
  have e2 : (fn.results.mapM (resOf a.tmps)).run P w = .ok vs'.toArray w := by
    rw [Array.mapM_eq_mapM_toList]; simp [h1]
  refine ⟨if h : vs'.toArray.size = 1 then vs'.toArray[0] else .tuple vs'.toArray, by rw [e]; simp only [Sem.run_bind, e2, Result.andThen_ok, Sem.run_pure], ?_⟩
  cases h2 with
  | nil => exact .tuple .nil
  | cons p q => cases q with
    | nil => exact p
    | cons r s => exact .tuple (.cons p (.cons r s))

def argF : Nat → List Value → List (Nat × Value)
  | _, [] => []
  | i, v :: vs => (i, v) :: argF (i + 1) vs

theorem argF_get : ∀ (vs : List Value) (i t : Nat) (v : Value), (argF i vs).lookup t = some v → ∃ k, t = i + k ∧ vs[k]? = some v
  | [], _, _, _, h => by simp [argF] at h
  | u :: us, i, t, v, h => by
    simp only [argF, List.lookup_cons] at h
    by_cases e : t = i
    · subst e; simp at h; subst h; exact ⟨0, rfl, rfl⟩
    · have : (t == i) = false := by simpa using e
      rw [this] at h
      obtain ⟨k, h1, h2⟩ := argF_get us (i + 1) t v h
      exact ⟨k + 1, by omega, by simpa using h2⟩

theorem AWp.enter {P : Program} {k : FuncId} {fn : Func} {bd : Code} {args : List Value} {H : AH} {R : Value → AH → Prop} (hf : P.funcs[k]? = some fn) (hb : fn.body = some bd)
    (h : CWp P bd (fun e T H' => (e = .ret ∨ e = .normal) ∧ ∃ vs, ResAs P T H' fn.results.toList vs ∧ R (one vs) H') ⟨fn.ntmps, argF 0 args⟩ H) : AWp P k args H R := by
  obtain ⟨e, T', H', ⟨he, vs, hr, hR⟩, hl, hx⟩ := h
  refine ⟨one vs, H', hR, hl, fun ψ w args' hw ha hn => ?_⟩
  refine calls_of_wp hf hb (wp_mono (hx ψ w _ hw ⟨rfl, ?_, ?_⟩ hn) ?_)
  · simp; omega
  · intro t v hv
    obtain ⟨q, h1, h2⟩ := argF_get args 0 t v hv
    obtain rfl : t = q := by omega
    obtain ⟨v', h3, h4⟩ := ha.get t v h2
    have hlt : t < args'.size := by
      rcases Nat.lt_or_ge t args'.size with g | g
      · exact g
      · simp [Array.getElem?_eq_none g] at h3
    exact ⟨v', by simp only; rw [Array.getElem?_append_left hlt]; simpa using h3, h4⟩
  · rintro e1 a1 w1 ⟨ψ', rfl, hf', hs⟩
    obtain ⟨v', r1, r2⟩ := results_run (fn := fn) hs.wr hf' hr
    rcases he with rfl | rfl <;> exact ⟨hf'.1, v', r1, v', ψ', rfl, r2, hs⟩

/-! ### What types tell -/

def aggD : TypeDesc → Bool
  | .struct _ | .array _ _ => true
  | _ => false
/-- Size in cells, and whether it is a struct or an array. -/
def tyOf (P : Program) (t : TypeId) : Option (Nat × Bool) :=
  match P.info? t, P.underlying t with
  | some i, some d => some (i.size, aggD d)
  | _, _ => none
theorem Ty.of {P : Program} {t : TypeId} {n : Nat} {ag : Bool} (h : tyOf P t = some (n, ag)) : Ty P t n ag := by
  unfold tyOf at h
  split at h
  · rename_i i d h1 h2
    simp only [Option.some.injEq, Prod.mk.injEq] at h
    exact ⟨⟨i, h1, h.1⟩, ⟨d, h2, by rw [← h.2]; cases d <;> rfl⟩⟩
  · cases h
/-- A field: its offset, its size, whether it is a struct or an array. -/
def fieldOf (P : Program) (t : TypeId) (i : Nat) : Option (Nat × Nat × Bool) :=
  match P.underlying t with
  | some (.struct fs) => match fs[i]? with
    | some f => match tyOf P f.type with
      | some (n, ag) => some (f.offset, n, ag)
      | none => none
    | none => none
  | _ => none
/-- A slice's element: its type, its size, its bytes. -/
def elemOf (P : Program) (t : TypeId) : Option (TypeId × Nat × Nat) :=
  match P.underlying t with
  | some (.slice e) => match P.info? e with
    | some i => some (e, i.size, i.bytes)
    | none => none
  | _ => none
def zeroOf (P : Program) (t : TypeId) : Option (List Value) :=
  match P.info? t with
  | some i => match i.zero with
    | some z => if z.cells.toList.all plainCell then some z.cells.toList else none
    | none => none
  | none => none
def elOk (P : Program) (e size bytes : Nat) : Bool :=
  match P.info? e with
  | some i => match i.zero with
    | some z => i.size == size && i.bytes == bytes && z.cells.size == size && z.cells.toList.all plainCell && decide (0 < size) && decide (0 < bytes) && decide (bytes ≤ 1000000)
    | none => false
  | none => false
theorem ElTy.of {P : Program} {e size bytes : Nat} (h : elOk P e size bytes = true) : ElTy P e size bytes := by
  unfold elOk at h
  split at h
  · rename_i i hi
    split at h
    · rename_i z hz
      simp only [Bool.and_eq_true, beq_iff_eq, decide_eq_true_eq] at h
      obtain ⟨⟨⟨⟨⟨⟨h1, h2⟩, h3⟩, h4⟩, h5⟩, h6⟩, h7⟩ := h
      exact ⟨⟨i, z, hi, h1, h2, hz, h3, h4⟩, h5, h6, h7⟩
    · cases h
  · cases h

/-! ### The plain operations, by reckoning -/

def GF.raw (G : GF) : Operand → Option Value
  | .tmp t => match G.get t with
    | some (_, v) => some v
    | none => none
  | .const v => if plainCell v then some v else none
  | .func f => some (.func (.func f) #[] #[])
  | .global _ => none
def GF.cond (G : GF) : Operand → Bool
  | .tmp t => ((G.get t).map (·.1)).getD false
  | _ => true

theorem raw_ev {G : GF} {x : Operand} {v : Value} (h : G.raw x = some v) (hc : G.cond x = true) : G.ev x = some v := by
  cases x with
  | tmp t =>
    simp only [GF.raw, GF.cond, GF.ev] at *
    cases hg : G.get t with
    | none => rw [hg] at h; cases h
    | some e =>
      rw [hg] at h hc
      obtain ⟨b, u⟩ := e
      simp at h hc
      subst h hc; rfl
  | const v => exact h
  | func f => exact h
  | global g => exact h

def GF.conds (G : GF) : List Operand → Bool
  | [] => true
  | x :: xs => G.cond x && G.conds xs

/-- The value of a sum, whatever the conditions. -/
def binV (op : BinOp) (u v : Value) : Option (Value × Prop) :=
  match u, v with
  | .int k a, .int k' b =>
    match op with
    | .shl => some (.int k (k.wrap (a * 2 ^ (min b.toNat k.bits))), 0 ≤ b)
    | .shr => some (.int k (a.fdiv (2 ^ (min b.toNat k.bits))), 0 ≤ b)
    | .add => some (.int k (k.wrap (a + b)), k = k')
    | .sub => some (.int k (k.wrap (a - b)), k = k')
    | .mul => some (.int k (k.wrap (a * b)), k = k')
    | .quo => some (.int k (k.wrap (a.tdiv b)), k = k' ∧ b ≠ 0)
    | .rem => some (.int k (a.tmod b), k = k' ∧ b ≠ 0)
    | .and => some (.int k (k.wrap ((BitVec.ofInt k.bits a) &&& (BitVec.ofInt k.bits b)).toNat), k = k')
    | .or => some (.int k (k.wrap ((BitVec.ofInt k.bits a) ||| (BitVec.ofInt k.bits b)).toNat), k = k')
    | .xor => some (.int k (k.wrap ((BitVec.ofInt k.bits a) ^^^ (BitVec.ofInt k.bits b)).toNat), k = k')
    | .andNot => some (.int k (k.wrap ((BitVec.ofInt k.bits a) &&& ~~~(BitVec.ofInt k.bits b)).toNat), k = k')
    | .eql => some (.bool (decide (a = b)), k = k')
    | .neq => some (.bool (!decide (a = b)), k = k')
    | .lss => some (.bool (decide (a < b)), k = k')
    | .leq => some (.bool (decide (a ≤ b)), k = k')
    | .gtr => some (.bool (decide (b < a)), k = k')
    | .geq => some (.bool (decide (b ≤ a)), k = k')
  | .string s, .string t =>
    match op with
    | .add => some (.string (bs (bl s ++ bl t)), (bl s).length + (bl t).length ≤ 4611686018427387904)
    | .eql => some (.bool (decide (bl s = bl t)), True)
    | .neq => some (.bool (!decide (bl s = bl t)), True)
    | .lss => some (.bool (Op.bytesLess (bl s) (bl t)), True)
    | .leq => some (.bool (Op.bytesLess (bl s) (bl t) || decide (bl s = bl t)), True)
    | .gtr => some (.bool (!(Op.bytesLess (bl s) (bl t) || decide (bl s = bl t))), True)
    | .geq => some (.bool (!Op.bytesLess (bl s) (bl t)), True)
    | _ => none
  | _, _ => none

theorem binV_sound {op : BinOp} {u v r : Value} {c : Prop} (h : binV op u v = some (r, c)) (hc : c) : aBin op u v = some r := by
  unfold binV at h
  split at h
  · cases op <;> simp only [Option.some.injEq, Prod.mk.injEq] at h <;> obtain ⟨rfl, rfl⟩ := h <;> simp only [aBin, aBinI] <;>
      first
        | (rw [if_pos hc])
        | (rw [if_neg (by omega)])
  · cases op <;> simp only [Option.some.injEq, Prod.mk.injEq] at h <;> (try (cases h; done)) <;> obtain ⟨rfl, rfl⟩ := h <;> simp only [aBin, aBinS] <;>
      first
        | rfl
        | (rw [if_pos hc])
  · cases h

/-- The value of a plain operation, and what it takes. -/
def pureStep (P : Program) (raw : Operand → Option Value) : Op → Option (Value × Prop)
  | .move x => match raw x with | some v => some (v, True) | none => none
  | .assign x => match raw x with | some v => some (v, True) | none => none
  | .index t x i => match raw x, raw i with
    | some (.string s), some (.int _ n) => some (.int .u8 (byteAt s n), P.underlying t = some .string ∧ 0 ≤ n ∧ n < (bl s).length)
    | _, _ => none
  | .binOp op t x y _ => match raw x, raw y with
    | some (.bool b), some (.bool c) => match op with
      | .eql => some (.bool (b == c), P.underlying t = some .bool)
      | .neq => some (.bool (!(b == c)), P.underlying t = some .bool)
      | _ => none
    | some u, some v => binV op u v
    | _, _ => none
  | .unOp op _ x => match op, raw x with
    | .not, some (.bool b) => some (.bool (!b), True)
    | .neg, some (.int k n) => some (.int k (k.wrap (0 - n)), True)
    | _, _ => none
  | .convert s d x => match P.underlying s, P.underlying d, raw x with
    | some (.int _), some (.int k'), some (.int _ n) => some (.int k' (k'.wrap n), True)
    | some .string, some .string, some (.string b) => some (.string b, True)
    | _, _, _ => none
  | .field t x i => match raw x, fieldOf P t i with
    | some (.agg cs), some (off, n, ag) => if ag then some (.agg ((cs.toList.drop off).take n).toArray, True) else (match cs.toList[off]? with | some v => some (v, True) | none => none)
    | _, _ => none
  | .fieldAddr t x i => match raw x, fieldOf P t i with
    | some (.pointer (some ⟨id, j, none⟩)), some (off, n, _) => some (.pointer (some ⟨id, j + off, none⟩), n ≠ 0)
    | _, _ => none
  | .indexAddr t x i => match raw x, raw i, elemOf P t with
    | some (.slice (some ⟨id, j, none⟩) n _), some (.int _ q), some (_, sz, _) => some (.pointer (some ⟨id, j + q.toNat * sz, none⟩), 0 ≤ q ∧ q < n)
    | _, _, _ => none
  | .extract x i => match raw x with
    | some (.tuple vs) => (match vs.toList[i]? with | some v => some (v, True) | none => none)
    | _ => none
  | .nilCheck x => match raw x with
    | some (.pointer (some a)) => some (.pointer (some a), True)
    | some (.func (.func f) us vs) => some (.func (.func f) us vs, True)
    | _ => none
  | .call c => match c.callee with
    | .builtin .len => match c.args.toList, c.argTypes.toList with
      | [x], [t] => match raw x with
        | some (.string s) => some (.int .i64 (bl s).length, P.underlying t = some .string)
        | some (.slice _ n _) => some (.int .i64 n, (elemOf P t).isSome = true)
        | _ => none
      | _, _ => none
    | _ => none
  | _ => none

theorem field_parts {P : Program} {t : TypeId} {i off n : Nat} {ag : Bool} (h : fieldOf P t i = some (off, n, ag)) : ∃ fs f ti d, P.underlying t = some (.struct fs) ∧ fs[i]? = some f ∧ P.info? f.type = some ti ∧ P.underlying f.type = some d ∧ f.offset = off ∧ ti.size = n ∧ aggD d = ag := by
  unfold fieldOf at h
  split at h
  · rename_i fs h1
    split at h
    · rename_i f h2
      split at h
      · rename_i m a h3
        unfold tyOf at h3
        split at h3
        · rename_i ti d h4 h5
          simp only [Option.some.injEq, Prod.mk.injEq] at h h3
          exact ⟨fs, f, ti, d, h1, h2, h4, h5, h.1, h3.1.trans h.2.1, h3.2.trans h.2.2⟩
        · cases h3
      · cases h
    · cases h
  · cases h
theorem elem_parts {P : Program} {t e n b : Nat} (h : elemOf P t = some (e, n, b)) : ∃ ti, P.underlying t = some (.slice e) ∧ P.info? e = some ti ∧ ti.size = n ∧ ti.bytes = b := by
  unfold elemOf at h
  split at h
  · rename_i e' h1
    split at h
    · rename_i ti h2
      simp only [Option.some.injEq, Prod.mk.injEq] at h
      obtain ⟨rfl, h3, h4⟩ := h
      exact ⟨ti, h1, h2, h3, h4⟩
    · cases h
  · cases h

theorem pureStep_sound {P : Program} {ρ : Operand → Option Value} {o : Oper} {v : Value} {c : Prop} (h : pureStep P ρ o.op = some (v, c)) (hc : c) : OPure P o ρ v := by
  obtain ⟨dst, op, type, pos, after, guard⟩ := o
  cases op <;> simp only [pureStep] at h <;> try (cases h; done)
  case move x => split at h <;> cases h; exact .move rfl ‹_›
  case assign x => split at h <;> cases h; exact .assign rfl ‹_›
  case binOp op t x y ty =>
    split at h
    · cases op <;> simp only at h <;> try (cases h; done)
      · cases h; exact OPure.eq_bool (op := .eql) rfl hc ‹_› ‹_› (.inl rfl)
      · cases h; exact OPure.eq_bool (op := .neq) rfl hc ‹_› ‹_› (.inr rfl)
    · exact .bin rfl ‹_› ‹_› (binV_sound h hc)
    · cases h
  case unOp op t x =>
    split at h
    · cases h; exact .not rfl ‹_›
    · cases h; exact .neg rfl ‹_›
    · cases h
  case convert s d x =>
    split at h
    · cases h; exact .conv_int rfl ‹_› ‹_› ‹_›
    · cases h; exact .conv_string rfl ‹_› ‹_› ‹_›
    · cases h
  case fieldAddr t x i =>
    split at h
    · rename_i id j off n ag h1 h2
      cases h
      obtain ⟨fs, f, ti, d, p1, p2, p3, p4, rfl, p6, p7⟩ := field_parts h2
      exact .fieldAddr rfl p1 p2 p3 (by rw [p6]; exact hc) h1
    · cases h
  case field t x i =>
    split at h
    · rename_i cs off n ag h1 h2
      obtain ⟨fs, f, ti, d, p1, p2, p3, p4, rfl, p6, p7⟩ := field_parts h2
      split at h
      · rename_i hag
        cases h
        subst p6
        exact .field_agg rfl p1 p2 p4 p3 h1 (by rw [← hag, ← p7]; cases d <;> rfl)
      · rename_i hag
        split at h
        · rename_i v' hv
          cases h
          exact .field rfl p1 p2 p4 h1 (by cases d <;> simp_all [aggD]) hv
        · cases h
    · cases h
  case indexAddr t x i =>
    split at h
    · rename_i id j n cp k q e sz b h1 h2 h3
      cases h
      obtain ⟨ti, p1, p2, rfl, p4⟩ := elem_parts h3
      exact .indexAddr rfl p1 p2 h1 h2 hc.1 hc.2
    · cases h
  case index t x i =>
    split at h
    · cases h; exact .index rfl hc.1 ‹_› ‹_› hc.2.1 hc.2.2
    · cases h
  case extract x i =>
    split at h
    · split at h
      · cases h; exact .extract rfl ‹_› ‹_›
      · cases h
    · cases h
  case nilCheck x =>
    split at h
    · cases h; exact .nilCheck rfl ‹_› trivial
    · cases h; exact .nilCheck rfl ‹_› trivial
    · cases h
  case call cl =>
    obtain ⟨cal, ags, ats⟩ := cl
    obtain ⟨al⟩ := ags
    obtain ⟨tl⟩ := ats
    split at h
    · rename_i hcal
      simp only at hcal
      subst hcal
      split at h
      · rename_i x t h1 h2
        simp only at h1 h2
        subst h1 h2
        split at h
        · cases h; exact .len_string rfl rfl rfl rfl hc ‹_›
        · cases h
          obtain ⟨⟨e, n, b⟩, he⟩ := Option.isSome_iff_exists.1 hc
          obtain ⟨ti, p1, _⟩ := elem_parts he
          exact .len_slice rfl rfl rfl rfl p1 ‹_›
        · cases h
      · cases h
    · cases h

end Go.Proofs.YtaccaelocddakaaDoor
