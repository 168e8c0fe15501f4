/- A part of the proof: no conditions. -/
import Derived.Test.YtaccaelocddakaaDoorA
namespace Go.Proofs.YtaccaelocddakaaDoor
open Go Go.RowKit
set_option linter.unusedVariables false
set_option linter.unusedSectionVars false
variable [Tabs]

/-- What an operation comes to, in the abstract, by its operands' values. -/
def OEval (P : Program) (o : Oper) (ρ : Operand → Option Value) (H : AH) (v : Value) (H' : AH) : Prop :=
  H.length ≤ H'.length ∧ ∀ (ψ : Emb) (w : World) (a : Act), WR ψ H w → (∀ x ∈ o.op.operands, ∀ u, ρ x = some u → VR ψ u (a.eval x)) →
    (∀ id, H.length ≤ id → id < H'.length → ψ id = none) → ∀ (K : Act → World → Prop) (Q : Exit → Act → World → Prop),
    (∀ v' ψ' w', VR ψ' v v' → Step ψ H w ψ' H' w' → K (a.put o.dst v') w') → o.wp P a w K Q

/-- An operation whose value hangs on its operands alone. -/
def OPure (P : Program) (o : Oper) (ρ : Operand → Option Value) (v : Value) : Prop :=
  ∀ (ψ : Emb) (σ : Operand → Value), (∀ x ∈ o.op.operands, ∀ u, ρ x = some u → VR ψ u (σ x)) → ∃ v', VR ψ v v' ∧ ∀ w, (execOp σ o).run P w = .ok (.value v') w

theorem OPure.oeval {P : Program} {o : Oper} {ρ : Operand → Option Value} {v : Value} (h : OPure P o ρ v) (H : AH) : OEval P o ρ H v H := by
  refine ⟨Nat.le_refl _, fun ψ w a hw hv hn K Q hk => ?_⟩
  obtain ⟨v', h1, h2⟩ := h ψ a.eval hv
  simp only [Oper.wp, h2 w, Oper.upon]
  exact hk v' ψ w h1 (.refl hw)

def bs (l : List UInt8) : ByteArray := ⟨l.toArray⟩
def bl (s : ByteArray) : List UInt8 := s.data.toList
@[simp] theorem bl_bs (l : List UInt8) : bl (bs l) = l := by simp [bl, bs]
@[simp] theorem bs_bl (s : ByteArray) : bs (bl s) = s := by cases s; rfl
@[simp] theorem bl_mk (a : Array UInt8) : bl ⟨a⟩ = a.toList := rfl
theorem bl_length (s : ByteArray) : (bl s).length = s.size := by simp only [bl, ByteArray.size, Array.length_toList]
theorem bl_append (s t : ByteArray) : bl (s ++ t) = bl s ++ bl t := by simp only [bl, ByteArray.data_append, Array.toList_append]
theorem bl_extract (s : ByteArray) (i j : Nat) : bl (s.extract i j) = ((bl s).drop i).take (j - i) := by
  simp [bl, ByteArray.data_extract, List.extract_eq_take_drop]
/-- The byte at a place, as a number (0 where there is none). -/
def byteAt (s : ByteArray) (i : Int) : Int := (((bl s).getD i.toNat 0).toNat : Int)

section
variable {P : Program} {ρ : Operand → Option Value} {o : Oper}

theorem OPure.move {x : Operand} {v : Value} (ho : o.op = .move x) (h : ρ x = some v) : OPure P o ρ v := by
  intro ψ σ hv
  exact ⟨σ x, hv x (by simp [ho, Op.operands]) v h, fun w => by simp [execOp, ho]⟩
theorem OPure.assign {x : Operand} {v : Value} (ho : o.op = .assign x) (h : ρ x = some v) : OPure P o ρ v := by
  intro ψ σ hv
  exact ⟨σ x, hv x (by simp [ho, Op.operands]) v h, fun w => by simp [execOp, ho]⟩

theorem OPure.pick {c a b : Operand} {t : Bool} {x y v : Value} (ho : o.op = .pick c a b) (hc : ρ c = some (.bool t)) (h : (if t then ρ a else ρ b) = some v) : OPure P o ρ v := by
  intro ψ σ hv
  have h1 := (hv c (by simp [ho, Op.operands]) _ hc).bool_inv
  cases t with
  | true => exact ⟨σ a, hv a (by simp [ho, Op.operands]) v (by simpa using h), fun w => by simp [execOp, ho, h1, asBool]⟩
  | false => exact ⟨σ b, hv b (by simp [ho, Op.operands]) v (by simpa using h), fun w => by simp [execOp, ho, h1, asBool]⟩

theorem OPure.index {t : TypeId} {x i : Operand} {s : ByteArray} {k : IntKind} {n : Int} (ho : o.op = .index t x i) (ht : P.underlying t = some .string)
    (hx : ρ x = some (.string s)) (hi : ρ i = some (.int k n)) (h0 : 0 ≤ n) (h1 : n < (bl s).length) : OPure P o ρ (.int .u8 (byteAt s n)) := by
  intro ψ σ hv
  have e1 := (hv x (by simp [ho, Op.operands]) _ hx).string_inv
  have e2 := (hv i (by simp [ho, Op.operands]) _ hi).int_inv
  have hlt : n.toNat < s.size := by rw [bl_length] at h1; omega
  have hlt' : n.toNat < s.data.size := hlt
  refine ⟨_, .int _ _, fun w => ?_⟩
  have e3 : s[n.toNat]? = some s[n.toNat] := by simp [hlt]
  have e4 : s[n.toNat] = s.data[n.toNat] := rfl
  simp [execOp, ho, Instr.index, e1, e2, asIntOf, underlying, ht, h0, e3, byteAt, bl, e4, List.getD_eq_getElem?_getD]
  rw [getElem?_pos s.data n.toNat hlt']; rfl

theorem OPure.len_string {t : TypeId} {x : Operand} {s : ByteArray} {c : Call} (ho : o.op = .call c) (hc : c.callee = .builtin .len) (ha : c.args = #[x]) (hat : c.argTypes = #[t]) (ht : P.underlying t = some .string)
    (hx : ρ x = some (.string s)) : OPure P o ρ (.int .i64 (bl s).length) := by
  intro ψ σ hv
  have e1 := (hv x (by simp [ho, Op.operands, Call.operands, hc, ha]) _ hx).string_inv
  exact ⟨_, .int _ _, fun w => by simp [execOp, ho, resolve, hc, ha, invoke, builtin, Builtin.len_, hat, underlying, ht, e1, goInt, bl_length]⟩

theorem VR.slice_inv {ψ : Emb} {a : Option Addr} {n c : Nat} {v : Value} (h : VR ψ (.slice a n c) v) : ∃ a' c', v = .slice a' n c' := by cases h <;> exact ⟨_, _, rfl⟩

theorem OPure.len_slice {t e : TypeId} {x : Operand} {ad : Option Addr} {n cp : Nat} {c : Call} (ho : o.op = .call c) (hc : c.callee = .builtin .len) (ha : c.args = #[x]) (hat : c.argTypes = #[t]) (ht : P.underlying t = some (.slice e))
    (hx : ρ x = some (.slice ad n cp)) : OPure P o ρ (.int .i64 n) := by
  intro ψ σ hv
  obtain ⟨a', c', e1⟩ := (hv x (by simp [ho, Op.operands, Call.operands, hc, ha]) _ hx).slice_inv
  exact ⟨_, .int _ _, fun w => by simp [execOp, ho, resolve, hc, ha, invoke, builtin, Builtin.len_, hat, underlying, ht, e1, goInt]⟩

/-- A sum, a comparison, of plain values. -/
def aBinI (op : BinOp) (k : IntKind) (a : Int) (k' : IntKind) (b : Int) : Option Value :=
    match op with
    | .shl => if b < 0 then none else some (.int k (k.wrap (a * 2 ^ (min b.toNat k.bits))))
    | .shr => if b < 0 then none else some (.int k (a.fdiv (2 ^ (min b.toNat k.bits))))
    | .add => if k = k' then some (.int k (k.wrap (a + b))) else none
    | .sub => if k = k' then some (.int k (k.wrap (a - b))) else none
    | .mul => if k = k' then some (.int k (k.wrap (a * b))) else none
    | .quo => if k = k' ∧ b ≠ 0 then some (.int k (k.wrap (a.tdiv b))) else none
    | .rem => if k = k' ∧ b ≠ 0 then some (.int k (a.tmod b)) else none
    | .and => if k = k' then some (.int k (k.wrap ((BitVec.ofInt k.bits a) &&& (BitVec.ofInt k.bits b)).toNat)) else none
    | .or => if k = k' then some (.int k (k.wrap ((BitVec.ofInt k.bits a) ||| (BitVec.ofInt k.bits b)).toNat)) else none
    | .xor => if k = k' then some (.int k (k.wrap ((BitVec.ofInt k.bits a) ^^^ (BitVec.ofInt k.bits b)).toNat)) else none
    | .andNot => if k = k' then some (.int k (k.wrap ((BitVec.ofInt k.bits a) &&& ~~~(BitVec.ofInt k.bits b)).toNat)) else none
    | .eql => if k = k' then some (.bool (decide (a = b))) else none
    | .neq => if k = k' then some (.bool (!decide (a = b))) else none
    | .lss => if k = k' then some (.bool (decide (a < b))) else none
    | .leq => if k = k' then some (.bool (decide (a ≤ b))) else none
    | .gtr => if k = k' then some (.bool (decide (b < a))) else none
    | .geq => if k = k' then some (.bool (decide (b ≤ a))) else none
def aBinS (op : BinOp) (s t : ByteArray) : Option Value :=
    match op with
    | .add => if (bl s).length + (bl t).length ≤ 4611686018427387904 then some (.string (bs (bl s ++ bl t))) else none
    | .eql => some (.bool (decide (bl s = bl t)))
    | .neq => some (.bool (!decide (bl s = bl t)))
    | .lss => some (.bool (Op.bytesLess (bl s) (bl t)))
    | .leq => some (.bool (Op.bytesLess (bl s) (bl t) || decide (bl s = bl t)))
    | .gtr => some (.bool (!(Op.bytesLess (bl s) (bl t) || decide (bl s = bl t))))
    | .geq => some (.bool (!Op.bytesLess (bl s) (bl t)))
    | _ => none
def aBin (op : BinOp) (u v : Value) : Option Value :=
  match u, v with
  | .int k a, .int k' b => aBinI op k a k' b
  | .string s, .string t => aBinS op s t
  | _, _ => none

theorem beq_int (a b : Int) : (a == b) = decide (a = b) := by by_cases h : a = b <;> simp [h]
theorem bne_int (a b : Int) : (a != b) = !decide (a = b) := by by_cases h : a = b <;> simp [h]
theorem beq_bl (a b : ByteArray) : (a.toList == b.toList) = decide (bl a = bl b) := by
  rw [ByteArray.toList_eq, ByteArray.toList_eq]; show (bl a == bl b) = _; by_cases h : bl a = bl b <;> simp [h]

def PlainV : Value → Prop
  | .int .. | .string _ | .bool _ => True
  | _ => False

theorem guard_int {op : BinOp} {t : TypeId} {x y : Operand} (k : IntKind) (a : Int) (k' : IntKind) (b : Int) (w : World) : (eqGuard op t x y (.int k a) (.int k' b)).run P w = .ok () w := by
  unfold eqGuard; cases op <;> simp
theorem guard_string {op : BinOp} {t : TypeId} {x y : Operand} (a b : ByteArray) (w : World) : (eqGuard op t x y (.string a) (.string b)).run P w = .ok () w := by
  unfold eqGuard; cases op <;> simp

theorem aBinI_run {op : BinOp} {t : TypeId} {k : IntKind} {a : Int} {k' : IntKind} {b : Int} {r : Value} (h : aBinI op k a k' b = some r) (w : World) :
    (binOp op t (.int k a) (.int k' b)).run P w = .ok r w := by
  cases op <;> simp only [aBinI] at h <;> split at h <;> (try (cases h; done)) <;> rename_i hk <;> simp only [Option.some.injEq] at h <;> subst h
  case quo => obtain ⟨rfl, hb⟩ := hk; simp [binOp, Op.intDiv, hb]
  case rem => obtain ⟨rfl, hb⟩ := hk; simp [binOp, Op.intDiv, hb]
  case shl => simp [binOp, Op.shift, hk]
  case shr => simp [binOp, Op.shift, hk]
  all_goals (subst hk; first | (simp only [binOp, ne_eq, not_true, if_false, Op.intArith, Op.intBits, Op.intCmp, beq_int, bne_int]; rfl) | (simp [binOp, Op.intArith, Op.intBits, Op.intCmp, beq_int, bne_int]))

theorem aBinS_run {op : BinOp} {t : TypeId} {a b : ByteArray} {r : Value} (h : aBinS op a b = some r) (w : World) :
    (binOp op t (.string a) (.string b)).run P w = .ok r w := by
  cases op <;> simp only [aBinS] at h <;> (try (cases h; done))
  case add =>
    split at h
    · rename_i hk
      simp only [Option.some.injEq] at h; subst h
      rw [bl_length, bl_length] at hk
      have : IntKind.i64.max = 9223372036854775807 := by decide
      have hm' : ¬ (IntKind.i64.max < ((a.size : Int) + (b.size : Int))) := by omega
      rw [← bl_append, bs_bl]
      simp [binOp, Op.stringOp]; omega
    · cases h
  all_goals (simp only [Option.some.injEq] at h; subst h; simp only [binOp, Op.stringOp, beq_bl]; (try simp only [ByteArray.toList_eq]); rfl)

theorem aBin_plain {op : BinOp} {u v r : Value} (h : aBin op u v = some r) :
    PlainV u ∧ PlainV v ∧ PlainV r := by
  unfold aBin at h
  split at h
  · refine ⟨trivial, trivial, ?_⟩
    cases op <;> simp only [aBinI] at h <;> split at h <;> (try (cases h; done)) <;> simp only [Option.some.injEq] at h <;> subst h <;> trivial
  · refine ⟨trivial, trivial, ?_⟩
    cases op <;> simp only [aBinS] at h <;> (try split at h) <;> (try (cases h; done)) <;> simp only [Option.some.injEq] at h <;> subst h <;> trivial
  · cases h

theorem aBin_run {op : BinOp} {t : TypeId} {x y : Operand} {u v r : Value} (h : aBin op u v = some r) (w : World) :
    (eqGuard op t x y u v).run P w = .ok () w ∧ (binOp op t u v).run P w = .ok r w := by
  unfold aBin at h
  split at h
  · exact ⟨guard_int _ _ _ _ _, aBinI_run h _⟩
  · exact ⟨guard_string _ _ _, aBinS_run h _⟩
  · cases h

theorem VR.plain {ψ : Emb} {u v : Value} (h : VR ψ u v) (hu : PlainV u) : v = u := by
  cases h <;> simp_all [PlainV]
theorem VR.of_plain {ψ : Emb} {u : Value} (hu : PlainV u) : VR ψ u u := by
  cases u <;> simp [PlainV] at hu <;> constructor

theorem OPure.bin {op : BinOp} {t ty : TypeId} {x y : Operand} {u v r : Value} (ho : o.op = .binOp op t x y ty) (hx : ρ x = some u) (hy : ρ y = some v) (h : aBin op u v = some r) : OPure P o ρ r := by
  intro ψ σ hv
  obtain ⟨p1, p2, p3⟩ := aBin_plain h
  have e1 := (hv x (by simp [ho, Op.operands]) _ hx).plain p1
  have e2 := (hv y (by simp [ho, Op.operands]) _ hy).plain p2
  refine ⟨r, .of_plain p3, fun w => ?_⟩
  obtain ⟨g1, g2⟩ := aBin_run (P := P) (op := op) (t := t) (x := x) (y := y) h w
  simp [execOp, ho, e1, e2, g1, g2]

theorem OPure.eq_bool {op : BinOp} {t ty : TypeId} {x y : Operand} {b c : Bool} (ho : o.op = .binOp op t x y ty) (ht : P.underlying t = some .bool) (hx : ρ x = some (.bool b)) (hy : ρ y = some (.bool c))
    (hop : op = .eql ∨ op = .neq) : OPure P o ρ (.bool (if op = .eql then b == c else !(b == c))) := by
  intro ψ σ hv
  have e1 := (hv x (by simp [ho, Op.operands]) _ hx).bool_inv
  have e2 := (hv y (by simp [ho, Op.operands]) _ hy).bool_inv
  refine ⟨_, .bool _, fun w => ?_⟩
  have h1 : (Op.equal t (.bool b) (.bool c)).run P w = .ok (b == c) w := by
    unfold Op.equal
    rw [show Op.maxDepth = 9999 + 1 from rfl, Op.equalIn]
    simp [underlying, ht]
  have g1 : (eqGuard .eql t x y (.bool b) (.bool c)).run P w = .ok () w := by simp [eqGuard]
  have g2 : (eqGuard .neq t x y (.bool b) (.bool c)).run P w = .ok () w := by simp [eqGuard]
  have b1 : binOp .eql t (.bool b) (.bool c) = (do pure (.bool (← Op.equal t (.bool b) (.bool c)))) := by rfl
  have b2 : binOp .neq t (.bool b) (.bool c) = (do pure (.bool (!(← Op.equal t (.bool b) (.bool c))))) := by rfl
  rcases hop with rfl | rfl
  · simp [execOp, ho, e1, e2, g1, b1, h1]
  · simp [execOp, ho, e1, e2, g2, b2, h1]

theorem OPure.not {t : TypeId} {x : Operand} {b : Bool} (ho : o.op = .unOp .not t x) (hx : ρ x = some (.bool b)) : OPure P o ρ (.bool (!b)) := by
  intro ψ σ hv
  have e1 := (hv x (by simp [ho, Op.operands]) _ hx).bool_inv
  exact ⟨_, .bool _, fun w => by simp [execOp, ho, Op.unary, e1]⟩
theorem OPure.neg {t : TypeId} {x : Operand} {k : IntKind} {n : Int} (ho : o.op = .unOp .neg t x) (hx : ρ x = some (.int k n)) : OPure P o ρ (.int k (k.wrap (0 - n))) := by
  intro ψ σ hv
  have e1 := (hv x (by simp [ho, Op.operands]) _ hx).int_inv
  exact ⟨_, .int _ _, fun w => by simp [execOp, ho, Op.unary, Op.intArith, e1]⟩

theorem OPure.conv_int {s d : TypeId} {x : Operand} {k k' k2 : IntKind} {n : Int} (ho : o.op = .convert s d x) (hs : P.underlying s = some (.int k)) (hd : P.underlying d = some (.int k')) (hx : ρ x = some (.int k2 n)) : OPure P o ρ (.int k' (k'.wrap n)) := by
  intro ψ σ hv
  have e1 := (hv x (by simp [ho, Op.operands]) _ hx).int_inv
  exact ⟨_, .int _ _, fun w => by simp [execOp, ho, convert, underlying, hs, hd, e1, Conv.intToInt]⟩
theorem OPure.conv_string {s d : TypeId} {x : Operand} {b : ByteArray} (ho : o.op = .convert s d x) (hs : P.underlying s = some .string) (hd : P.underlying d = some .string) (hx : ρ x = some (.string b)) : OPure P o ρ (.string b) := by
  intro ψ σ hv
  have e1 := (hv x (by simp [ho, Op.operands]) _ hx).string_inv
  exact ⟨_, .string _, fun w => by simp [execOp, ho, convert, underlying, hs, hd, e1]⟩

theorem OPure.slice_string {t : TypeId} {x : Operand} {lo hi : Option Operand} {s : ByteArray} {l h : Int} (ho : o.op = .slice t x lo hi none) (ht : P.underlying t = some .string) (hx : ρ x = some (.string s))
    (hl : match lo with | none => l = 0 | some y => ∃ k, ρ y = some (.int k l)) (hh : match hi with | none => h = (bl s).length | some y => ∃ k, ρ y = some (.int k h))
    (h0 : 0 ≤ l) (h1 : l ≤ h) (h2 : h ≤ (bl s).length) : OPure P o ρ (.string (bs (((bl s).drop l.toNat).take (h.toNat - l.toNat)))) := by
  intro ψ σ hv
  have e1 := (hv x (by simp [ho, Op.operands]) _ hx).string_inv
  rw [← bl_extract, bs_bl]
  rw [bl_length] at h2
  refine ⟨_, .string _, fun w => ?_⟩
  have elo : ∀ y, lo = some y → ∃ k, σ y = .int k l := by
    intro y hy; subst hy; obtain ⟨k, hk⟩ := hl; exact ⟨k, (hv y (by simp [ho, Op.operands]) _ hk).int_inv⟩
  have ehi : ∀ y, hi = some y → ∃ k, σ y = .int k h := by
    intro y hy; subst hy; obtain ⟨k, hk⟩ := hh; exact ⟨k, (hv y (by simp [ho, Op.operands]) _ hk).int_inv⟩
  have h0' : 0 ≤ h := by omega
  have c2 : h ≤ (s.size : Int) := h2
  have c3 : l ≤ (h.toNat : Int) := by omega
  have c4 : l ≤ (s.size : Int) := by omega
  have c5 : ¬ (max h 0 < l) := by omega
  cases lo with
  | none =>
    simp only at hl; subst hl
    cases hi with
    | none => simp only at hh; subst hh; simp [execOp, ho, e1, Instr.sliceAt, Instr.slice, Instr.sliceBounds, underlying, ht, bl_length]
    | some y => obtain ⟨k, hk⟩ := ehi y rfl; simp [execOp, ho, e1, Instr.sliceAt, Instr.slice, Instr.sliceBounds, Instr.sliceBound, underlying, ht, hk, asIntOf, h0', c2]
  | some z =>
    obtain ⟨k', hk'⟩ := elo z rfl
    cases hi with
    | none => simp only at hh; subst hh; simp [execOp, ho, e1, Instr.sliceAt, Instr.slice, Instr.sliceBounds, Instr.sliceBound, underlying, ht, hk', asIntOf, h0, c4, bl_length]
    | some y => obtain ⟨k, hk⟩ := ehi y rfl; simp [execOp, ho, e1, Instr.sliceAt, Instr.slice, Instr.sliceBounds, Instr.sliceBound, underlying, ht, hk, hk', asIntOf, h0', c2, h0, c3]; omega

theorem OPure.extract {x : Operand} {i : Nat} {vs : Array Value} {v : Value} (ho : o.op = .extract x i) (hx : ρ x = some (.tuple vs)) (hi : vs.toList[i]? = some v) : OPure P o ρ v := by
  intro ψ σ hv
  have e1 := hv x (by simp [ho, Op.operands]) _ hx
  cases e2 : σ x <;> rw [e2] at e1 <;> cases e1
  rename_i ys hys
  obtain ⟨v', h1, h2⟩ := hys.get i v hi
  refine ⟨v', h2, fun w => ?_⟩
  have h3 : ys[i]? = some v' := by simpa using h1
  simp [execOp, ho, Instr.extract, e2, h3]

/-- A struct's field, of a value. -/
theorem OPure.field {t : TypeId} {x : Operand} {i : Nat} {fs : Array Field} {f : Field} {d : TypeDesc} {cs : Array Value} {v : Value} (ho : o.op = .field t x i) (ht : P.underlying t = some (.struct fs)) (hf : fs[i]? = some f)
    (hd : P.underlying f.type = some d) (hx : ρ x = some (.agg cs)) (hs : (match d with | .struct _ | .array _ _ => false | _ => true) = true) (hv0 : cs.toList[f.offset]? = some v) : OPure P o ρ v := by
  intro ψ σ hv
  have e1 := hv x (by simp [ho, Op.operands]) _ hx
  cases e2 : σ x <;> rw [e2] at e1 <;> cases e1
  rename_i ys hys
  obtain ⟨v', h1, h2⟩ := hys.get _ v hv0
  refine ⟨v', h2, fun w => ?_⟩
  have h3 : ys[f.offset]? = some v' := by simpa using h1
  cases d <;> simp at hs <;> simp [execOp, ho, Instr.field, underlying, ht, hf, asAgg, e2, part, isAgg, hd, h3]

theorem OPure.field_agg {t : TypeId} {x : Operand} {i : Nat} {fs : Array Field} {f : Field} {d : TypeDesc} {ti : TypeInfo} {cs : Array Value} (ho : o.op = .field t x i) (ht : P.underlying t = some (.struct fs)) (hf : fs[i]? = some f)
    (hd : P.underlying f.type = some d) (hi : P.info? f.type = some ti) (hx : ρ x = some (.agg cs)) (hs : (match d with | .struct _ | .array _ _ => true | _ => false) = true) :
    OPure P o ρ (.agg ((cs.toList.drop f.offset).take ti.size).toArray) := by
  intro ψ σ hv
  have e1 := hv x (by simp [ho, Op.operands]) _ hx
  cases e2 : σ x <;> rw [e2] at e1 <;> cases e1
  rename_i ys hys
  refine ⟨.agg ((ys.toList.drop f.offset).take ti.size).toArray, .agg (by simpa using (hys.drop _).take _), fun w => ?_⟩
  have h4 : ys.extract f.offset (f.offset + ti.size) = ((ys.toList.drop f.offset).take ti.size).toArray := by
    apply Array.toList_inj.1; simp [List.extract_eq_take_drop]
  cases d <;> simp at hs <;> simp [execOp, ho, Instr.field, underlying, ht, hf, asAgg, e2, part, isAgg, hd, sizeOf, typeInfo, hi, h4]

/-- The address of a struct's field. -/
theorem OPure.fieldAddr {t : TypeId} {x : Operand} {i : Nat} {fs : Array Field} {f : Field} {ti : TypeInfo} {id j : Nat} (ho : o.op = .fieldAddr t x i) (ht : P.underlying t = some (.struct fs)) (hf : fs[i]? = some f)
    (hi : P.info? f.type = some ti) (hsz : ti.size ≠ 0) (hx : ρ x = some (.pointer (some ⟨id, j, none⟩))) : OPure P o ρ (.pointer (some ⟨id, j + f.offset, none⟩)) := by
  intro ψ σ hv
  have e1 := hv x (by simp [ho, Op.operands]) _ hx
  cases e2 : σ x <;> rw [e2] at e1 <;> cases e1
  rename_i L hL
  refine ⟨_, .ptr (j := j + f.offset) hL, fun w => ?_⟩
  by_cases h0 : f.offset = 0
  · simp [execOp, ho, Instr.fieldAt, Instr.sureAddr, underlying, ht, hf, e2, fieldPlace, sizeOf, typeInfo, hi, hsz, Addr.add, h0]
  · simp [execOp, ho, Instr.fieldAt, Instr.sureAddr, underlying, ht, hf, e2, fieldPlace, sizeOf, typeInfo, hi, hsz, Addr.add, h0]

/-- The address of a slice's element. -/
theorem OPure.indexAddr {t e : TypeId} {x i : Operand} {ti : TypeInfo} {id j n c : Nat} {k : IntKind} {q : Int} (ho : o.op = .indexAddr t x i) (ht : P.underlying t = some (.slice e)) (hi : P.info? e = some ti)
    (hx : ρ x = some (.slice (some ⟨id, j, none⟩) n c)) (hq : ρ i = some (.int k q)) (h0 : 0 ≤ q) (h1 : q < n) : OPure P o ρ (.pointer (some ⟨id, j + q.toNat * ti.size, none⟩)) := by
  intro ψ σ hv
  have e1 := hv x (by simp [ho, Op.operands]) _ hx
  have e3 := (hv i (by simp [ho, Op.operands]) _ hq).int_inv
  cases e2 : σ x <;> rw [e2] at e1 <;> cases e1
  case sl0 => omega
  rename_i L c' hL _ _ _ _
  refine ⟨_, .ptr (j := j + q.toNat * ti.size) hL, fun w => ?_⟩
  by_cases hz : q.toNat * ti.size = 0
  · simp [execOp, ho, Instr.indexAt, underlying, ht, e2, e3, asIntOf, h0, h1, sizeOf, typeInfo, hi, Addr.add, hz]
  · simp [execOp, ho, Instr.indexAt, underlying, ht, e2, e3, asIntOf, h0, h1, sizeOf, typeInfo, hi, Addr.add, hz]

theorem OPure.makeFunc {fn : Fn} {fs cs : Array Operand} {us vs : List Value} (ho : o.op = .makeFunc fn fs cs) (hu : fs.toList.map ρ = us.map some) (hv : cs.toList.map ρ = vs.map some) : OPure P o ρ (.func fn us.toArray vs.toArray) := by
  intro ψ σ hh
  have gen : ∀ (xs : List Operand) (ws : List Value), (∀ x ∈ xs, x ∈ o.op.operands) → xs.map ρ = ws.map some → VRs ψ ws (xs.map σ) := by
    intro xs
    induction xs with
    | nil => intro ws _ h; cases ws with | nil => exact .nil | cons => simp at h
    | cons x xs ih =>
      intro ws hm h
      cases ws with
      | nil => simp at h
      | cons y ws => simp at h; exact .cons (hh x (hm x (by simp)) y h.1) (ih ws (fun z hz => hm z (by simp [hz])) h.2)
  refine ⟨.func fn (fs.map σ) (cs.map σ), .func (by simpa using gen fs.toList us (by intro x hx; simp [ho, Op.operands]; left; simpa using hx) hu) (by simpa using gen cs.toList vs (by intro x hx; simp [ho, Op.operands]; right; simpa using hx) hv), fun w => ?_⟩
  simp [execOp, ho, Instr.makeFunc]

theorem OPure.nilCheck {x : Operand} {v : Value} (ho : o.op = .nilCheck x) (hx : ρ x = some v) (hv : match v with | .pointer (some _) => True | .func (.func _) _ _ => True | _ => False) : OPure P o ρ v := by
  intro ψ σ hh
  have e1 := hh x (by simp [ho, Op.operands]) _ hx
  refine ⟨σ x, e1, fun w => ?_⟩
  cases v <;> (try (cases hv; done))
  case pointer a =>
    cases a with
    | none => simp at hv
    | some a => cases e2 : σ x <;> rw [e2] at e1 <;> cases e1 <;> simp [execOp, ho, e2]
  case func f us vs =>
    cases e2 : σ x <;> rw [e2] at e1 <;> cases e1
    rename_i ys zs _ _
    cases f <;> simp at hv
    simp [execOp, ho, e2]

end
end Go.Proofs.YtaccaelocddakaaDoor
