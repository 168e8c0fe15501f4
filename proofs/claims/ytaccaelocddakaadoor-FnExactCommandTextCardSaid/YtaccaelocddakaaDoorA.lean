/- A part of the proof: no conditions. -/
import Derived.WalkKit
import Derived.Orders
namespace Go.Proofs.YtaccaelocddakaaDoor
open Go Go.RowKit
set_option linter.unusedVariables false
set_option linter.unusedSectionVars false

/-- Blocks that hold what they hold, always: package-level tables. -/
class Tabs where
  vals : Nat → Option (List Value)
variable [Tabs]

/-- Where an abstract block lies: the block, the first cell, how many cells the block has, the size of an element. -/
structure Loc where
  b : Nat
  o : Nat
  lim : Nat
  esz : Nat
abbrev Emb := Nat → Option Loc

mutual
/-- The abstract value and the value of the machine that it tells of. -/
inductive VR (ψ : Emb) : Value → Value → Prop
  | bool (b : Bool) : VR ψ (.bool b) (.bool b)
  | int (k : IntKind) (n : Int) : VR ψ (.int k n) (.int k n)
  | string (s : ByteArray) : VR ψ (.string s) (.string s)
  | pnil : VR ψ (.pointer none) (.pointer none)
  | ptr {id : Nat} {L : Loc} {j : Nat} (h : ψ id = some L) : VR ψ (.pointer (some ⟨id, j, none⟩)) (.pointer (some ⟨L.b, L.o + j, none⟩))
  | snil : VR ψ (.slice none 0 0) (.slice none 0 0)
  | snilE {a : Addr} : VR ψ (.slice none 0 0) (.slice (some a) 0 0)
  | sl {id : Nat} {L : Loc} {j n c c' : Nat} (h : ψ id = some L) (h0 : 0 < c) (h1 : n ≤ c) (h2 : c ≤ c') (h3 : L.o + j + c' * L.esz ≤ L.lim) :
      VR ψ (.slice (some ⟨id, j, none⟩) n c) (.slice (some ⟨L.b, L.o + j, none⟩) n c')
  | sl0 {id : Nat} {L : Loc} {j j' c' : Nat} (h : ψ id = some L) (h3 : j' + c' * L.esz ≤ L.lim) :
      VR ψ (.slice (some ⟨id, j, none⟩) 0 0) (.slice (some ⟨L.b, j', none⟩) 0 c')
  | nilFunc : VR ψ .nilFunc .nilFunc
  | nilIface : VR ψ .nilIface .nilIface
  | iface {t : TypeId} {v v' : Value} (h : VR ψ v v') : VR ψ (.iface t v) (.iface t v')
  | agg {xs ys : Array Value} (h : VRs ψ xs.toList ys.toList) : VR ψ (.agg xs) (.agg ys)
  | tuple {xs ys : Array Value} (h : VRs ψ xs.toList ys.toList) : VR ψ (.tuple xs) (.tuple ys)
  | func {f : Fn} {xs ys us vs : Array Value} (h : VRs ψ xs.toList ys.toList) (h' : VRs ψ us.toList vs.toList) : VR ψ (.func f xs us) (.func f ys vs)
inductive VRs (ψ : Emb) : List Value → List Value → Prop
  | nil : VRs ψ [] []
  | cons {x y : Value} {xs ys : List Value} (h : VR ψ x y) (t : VRs ψ xs ys) : VRs ψ (x :: xs) (y :: ys)
end

def Emb.le (ψ ψ' : Emb) : Prop := ∀ id L, ψ id = some L → ψ' id = some L

mutual
theorem VR.mono {ψ ψ' : Emb} (h : ψ.le ψ') : ∀ {v v' : Value}, VR ψ v v' → VR ψ' v v'
  | _, _, .bool b => .bool b
  | _, _, .int k n => .int k n
  | _, _, .string s => .string s
  | _, _, .pnil => .pnil
  | _, _, .ptr e => .ptr (h _ _ e)
  | _, _, .snil => .snil
  | _, _, .snilE => .snilE
  | _, _, .sl e a b c d => .sl (h _ _ e) a b c d
  | _, _, .sl0 e d => .sl0 (h _ _ e) d
  | _, _, .nilFunc => .nilFunc
  | _, _, .nilIface => .nilIface
  | _, _, .iface r => .iface (VR.mono h r)
  | _, _, .agg r => .agg (VRs.mono h r)
  | _, _, .tuple r => .tuple (VRs.mono h r)
  | _, _, .func r s => .func (VRs.mono h r) (VRs.mono h s)
theorem VRs.mono {ψ ψ' : Emb} (h : ψ.le ψ') : ∀ {v v' : List Value}, VRs ψ v v' → VRs ψ' v v'
  | _, _, .nil => .nil
  | _, _, .cons a b => .cons (VR.mono h a) (VRs.mono h b)
end

theorem VRs.length {ψ : Emb} : ∀ {xs ys : List Value}, VRs ψ xs ys → xs.length = ys.length
  | _, _, .nil => rfl
  | _, _, .cons _ b => by simp [VRs.length b]

theorem VRs.get {ψ : Emb} : ∀ {xs ys : List Value}, VRs ψ xs ys → ∀ (i : Nat) (v : Value), xs[i]? = some v → ∃ v', ys[i]? = some v' ∧ VR ψ v v'
  | _, _, .nil, i, v, h => by simp at h
  | _, _, .cons a b, 0, v, h => by simp at h; subst h; exact ⟨_, rfl, a⟩
  | _, _, .cons a b, i + 1, v, h => by simp at h; simpa using VRs.get b i v h

theorem VRs.of_get {ψ : Emb} : ∀ {xs ys : List Value}, xs.length = ys.length → (∀ (i : Nat) (v : Value), xs[i]? = some v → ∃ v', ys[i]? = some v' ∧ VR ψ v v') → VRs ψ xs ys
  | [], [], _, _ => .nil
  | [], _ :: _, h, _ => by simp at h
  | _ :: _, [], h, _ => by simp at h
  | x :: xs, y :: ys, h, g => by
    refine .cons ?_ (VRs.of_get (by simpa using h) fun i v hv => ?_)
    · obtain ⟨v', h1, h2⟩ := g 0 x (by simp); simp at h1; subst h1; exact h2
    · obtain ⟨v', h1, h2⟩ := g (i + 1) v (by simpa using hv); exact ⟨v', by simpa using h1, h2⟩

theorem VRs.append {ψ : Emb} : ∀ {xs ys us vs : List Value}, VRs ψ xs ys → VRs ψ us vs → VRs ψ (xs ++ us) (ys ++ vs)
  | _, _, _, _, .nil, h => h
  | _, _, _, _, .cons a b, h => .cons a (VRs.append b h)

theorem VRs.take {ψ : Emb} : ∀ {xs ys : List Value} (n : Nat), VRs ψ xs ys → VRs ψ (xs.take n) (ys.take n)
  | _, _, 0, _ => by simp; exact .nil
  | _, _, n + 1, .nil => by simp; exact .nil
  | _, _, n + 1, .cons a b => by simp; exact .cons a (VRs.take n b)

theorem VRs.drop {ψ : Emb} : ∀ {xs ys : List Value} (n : Nat), VRs ψ xs ys → VRs ψ (xs.drop n) (ys.drop n)
  | _, _, 0, h => by simpa using h
  | _, _, n + 1, .nil => by simp; exact .nil
  | _, _, n + 1, .cons a b => by simp; exact VRs.drop n b

theorem VRs.set {ψ : Emb} : ∀ {xs ys : List Value} (i : Nat) {u v : Value}, VRs ψ xs ys → VR ψ u v → VRs ψ (xs.set i u) (ys.set i v)
  | _, _, _, _, _, .nil, _ => by simp; exact .nil
  | _, _, 0, _, _, .cons _ b, h => by simp; exact .cons h b
  | _, _, i + 1, _, _, .cons a b, h => by simp; exact .cons a (VRs.set i b h)

inductive St where
  | ro | rw | dead
  deriving DecidableEq

/-- An abstract block. -/
structure Blk where
  el : TypeId
  esz : Nat
  cells : List Value
  st : St
abbrev AH := List Blk

/-- The block number is one of those that may be written. -/
def Hot (ψ : Emb) (H : AH) (b : Nat) : Prop := ∃ id L B, ψ id = some L ∧ H[id]? = some B ∧ B.st = .rw ∧ L.b = b

/-- The machine's world tells what the abstract heap says, of the blocks that are placed. -/
structure WR (ψ : Emb) (H : AH) (w : World) : Prop where
  blk : ∀ id L, ψ id = some L → ∃ c el fr, w.heap[L.b]? = some (.cells c el fr) ∧ c.size = L.lim
  cells : ∀ id L B, ψ id = some L → H[id]? = some B → L.esz = B.esz ∧ (B.st ≠ .dead → ∃ c fr, w.heap[L.b]? = some (.cells c B.el fr) ∧
    L.o + B.cells.length ≤ L.lim ∧ (∀ i v, B.cells[i]? = some v → ∃ v', c[L.o + i]? = some v' ∧ VR ψ v v') ∧ (B.st = .rw → ∀ k, k < L.lim → ¬ (fr.1 ≤ k ∧ k < fr.2)))
  inj : ∀ id1 id2 L1 L2 B1, ψ id1 = some L1 → ψ id2 = some L2 → H[id1]? = some B1 → B1.st = .rw → id1 ≠ id2 → L1.b = L2.b →
    id2 < id1 ∧ ∃ B2, H[id2]? = some B2 ∧ B2.st = .dead
  fixed : ∀ (g : Nat) (vs : List Value), Tabs.vals g = some vs → (∃ c el fr, w.heap[g]? = some (.cells c el fr) ∧ c.toList = vs) ∧ ¬ Hot ψ H g
  fin : ∃ N, ∀ id, N ≤ id → ψ id = none

/-- One step's effect. -/
structure Step (ψ : Emb) (H : AH) (w : World) (ψ' : Emb) (H' : AH) (w' : World) : Prop where
  wr : WR ψ' H' w'
  le : ψ.le ψ'
  off : ∀ id, (id < H.length ∨ H'.length ≤ id) → ψ' id = ψ id
  len : H.length ≤ H'.length
  size : w.heap.size ≤ w'.heap.size
  os : w'.os = w.os
  tape : w'.tape = w.tape
  output : w'.output = w.output
  keep : ∀ b, b < w.heap.size → ¬ Hot ψ H b → w'.heap[b]? = w.heap[b]?
  new : ∀ id L, H.length ≤ id → id < H'.length → ψ' id = some L → w.heap.size ≤ L.b ∨ Hot ψ H L.b
  hot : ∀ b, Hot ψ' H' b → w.heap.size ≤ b ∨ Hot ψ H b

theorem Step.refl {ψ : Emb} {H : AH} {w : World} (h : WR ψ H w) : Step ψ H w ψ H w :=
  ⟨h, fun _ _ e => e, fun _ _ => rfl, Nat.le_refl _, Nat.le_refl _, rfl, rfl, rfl, fun _ _ _ => rfl, fun _ _ a b => absurd b (by omega), fun _ h => .inr h⟩

theorem Step.drew {ψ : Emb} {H : AH} {w : World} {ψ' : Emb} {H' : AH} {w' : World} (h : Step ψ H w ψ' H' w') (n : Nat) : Step ψ H w ψ' H' { w' with drawn := n } :=
  ⟨⟨h.wr.blk, h.wr.cells, h.wr.inj, h.wr.fixed, h.wr.fin⟩, h.le, h.off, h.len, h.size, h.os, h.tape, h.output, h.keep, h.new, h.hot⟩

theorem WR.drew {ψ : Emb} {H : AH} {w : World} (h : WR ψ H w) (n : Nat) : WR ψ H { w with drawn := n } := ⟨h.blk, h.cells, h.inj, h.fixed, h.fin⟩

theorem Step.trans {ψ ψ1 ψ2 : Emb} {H H1 H2 : AH} {w w1 w2 : World} (h : Step ψ H w ψ1 H1 w1) (k : Step ψ1 H1 w1 ψ2 H2 w2) : Step ψ H w ψ2 H2 w2 := by
  refine ⟨k.wr, fun id L e => k.le _ _ (h.le _ _ e), ?_, Nat.le_trans h.len k.len, Nat.le_trans h.size k.size, k.os.trans h.os, k.tape.trans h.tape, k.output.trans h.output, ?_, ?_, ?_⟩
  · intro id hid
    have l1 := h.len
    have l2 := k.len
    rw [k.off id (by omega), h.off id (by omega)]
  · intro b hb hn
    have s := h.size
    rw [k.keep b (by omega) (fun hh => (h.hot b hh).elim (by omega) hn), h.keep b hb hn]
  · intro id L h1 h2 e
    have s := h.size
    by_cases hid : id < H1.length
    · have : ψ1 id = some L := by rw [← k.off id (.inl hid)]; exact e
      exact h.new id L h1 hid this
    · rcases k.new id L (by omega) h2 e with g | g
      · exact .inl (by omega)
      · exact h.hot _ g
  · intro b hb
    have s := h.size
    rcases k.hot b hb with g | g
    · exact .inl (by omega)
    · exact h.hot b g

/-- A function's answer, in the abstract. -/
def AEval (P : Program) (f : FuncId) (args : List Value) (H : AH) (v : Value) (H' : AH) : Prop :=
  H.length ≤ H'.length ∧ ∀ (ψ : Emb) (w : World) (args' : Array Value), WR ψ H w → VRs ψ args args'.toList → (∀ id, H.length ≤ id → id < H'.length → ψ id = none) →
    Calls P f args' w fun e w' => ∃ v' ψ', e = .returned v' ∧ VR ψ' v v' ∧ Step ψ H w ψ' H' w'

/-- A frame, in the abstract: what is known of some slots. -/
structure AF where
  n : Nat
  l : List (Nat × Value)
def AF.get (T : AF) (t : Nat) : Option Value := T.l.lookup t
def FR (ψ : Emb) (T : AF) (a : Act) : Prop := a.defers = [] ∧ T.n ≤ a.tmps.size ∧ ∀ t v, T.get t = some v → ∃ v', a.tmps[t]? = some v' ∧ VR ψ v v'

theorem FR.mono {ψ ψ' : Emb} {T : AF} {a : Act} (h : ψ.le ψ') (k : FR ψ T a) : FR ψ' T a :=
  ⟨k.1, k.2.1, fun t v e => let ⟨v', h1, h2⟩ := k.2.2 t v e; ⟨v', h1, h2.mono h⟩⟩

/-- What a piece of code comes to, in the abstract. -/
def CEval (P : Program) (c : Code) (T : AF) (H : AH) (e : Exit) (T' : AF) (H' : AH) : Prop :=
  H.length ≤ H'.length ∧ ∀ (ψ : Emb) (w : World) (a : Act), WR ψ H w → FR ψ T a → (∀ id, H.length ≤ id → id < H'.length → ψ id = none) →
    c.wp P (fun e1 a1 w1 => ∃ ψ', e1 = e ∧ FR ψ' T' a1 ∧ Step ψ H w ψ' H' w1) a w

def CWp (P : Program) (c : Code) (Q : Exit → AF → AH → Prop) (T : AF) (H : AH) : Prop := ∃ e T' H', Q e T' H' ∧ CEval P c T H e T' H'
def AWp (P : Program) (f : FuncId) (args : List Value) (H : AH) (R : Value → AH → Prop) : Prop := ∃ v H', R v H' ∧ AEval P f args H v H'

theorem AWp.mono {P : Program} {f : FuncId} {args : List Value} {H : AH} {R R' : Value → AH → Prop} (h : AWp P f args H R) (k : ∀ v H', R v H' → R' v H') : AWp P f args H R' :=
  let ⟨v, H', r, e⟩ := h; ⟨v, H', k _ _ r, e⟩
theorem CWp.mono {P : Program} {c : Code} {Q Q' : Exit → AF → AH → Prop} {T : AF} {H : AH} (h : CWp P c Q T H) (k : ∀ e T H, Q e T H → Q' e T H) : CWp P c Q' T H :=
  let ⟨e, T', H', r, s⟩ := h; ⟨e, T', H', k _ _ _ r, s⟩

theorem CWp.skip {P : Program} {Q : Exit → AF → AH → Prop} {T : AF} {H : AH} (h : Q .normal T H) : CWp P .skip Q T H :=
  ⟨.normal, T, H, h, Nat.le_refl _, fun ψ w a hw hf _ => wp_skip ⟨ψ, rfl, hf, .refl hw⟩⟩
theorem CWp.label {P : Program} {l : Nat} {Q : Exit → AF → AH → Prop} {T : AF} {H : AH} (h : Q .normal T H) : CWp P (.label l) Q T H :=
  ⟨.normal, T, H, h, Nat.le_refl _, fun ψ w a hw hf _ => wp_label ⟨ψ, rfl, hf, .refl hw⟩⟩
theorem CWp.ret {P : Program} {Q : Exit → AF → AH → Prop} {T : AF} {H : AH} (h : Q .ret T H) : CWp P .ret Q T H :=
  ⟨.ret, T, H, h, Nat.le_refl _, fun ψ w a hw hf _ => wp_ret ⟨ψ, rfl, hf, .refl hw⟩⟩
theorem CWp.exit {P : Program} {id : Nat} {Q : Exit → AF → AH → Prop} {T : AF} {H : AH} (h : Q (.exit id) T H) : CWp P (.exit id) Q T H :=
  ⟨.exit id, T, H, h, Nat.le_refl _, fun ψ w a hw hf _ => wp_exit ⟨ψ, rfl, hf, .refl hw⟩⟩

/-- What follows: on the normal way the rest, on every other way the end. -/
def thenQ (K : AF → AH → Prop) (Q : Exit → AF → AH → Prop) : Exit → AF → AH → Prop
  | .normal, T, H => K T H
  | e, T, H => Q e T H

theorem CWp.seq {P : Program} {x y : Code} {Q : Exit → AF → AH → Prop} {T : AF} {H : AH} (h : CWp P x (thenQ (fun T H => CWp P y Q T H) Q) T H) : CWp P (.seq x y) Q T H := by
  obtain ⟨e, T1, H1, hq, hl, hx⟩ := h
  cases e with
  | normal =>
    obtain ⟨e2, T2, H2, hq2, hl2, hy⟩ := hq
    refine ⟨e2, T2, H2, hq2, Nat.le_trans hl hl2, fun ψ w a hw hf hn => ?_⟩
    refine wp_seq (wp_mono (hx ψ w a hw hf fun id a b => hn id a (by omega)) ?_)
    rintro e1 a1 w1 ⟨ψ1, rfl, hf1, hs1⟩
    refine wp_mono (hy ψ1 w1 a1 hs1.wr hf1 fun id a b => ?_) ?_
    · rw [hs1.off id (.inr a)]; exact hn id (by omega) b
    · rintro e3 a3 w3 ⟨ψ3, rfl, hf3, hs3⟩
      exact ⟨ψ3, rfl, hf3, hs1.trans hs3⟩
  | exit id =>
    refine ⟨_, T1, H1, hq, hl, fun ψ w a hw hf hn => wp_seq (wp_mono (hx ψ w a hw hf hn) ?_)⟩
    rintro e1 a1 w1 ⟨ψ1, rfl, r⟩; exact ⟨ψ1, rfl, r⟩
  | ret =>
    refine ⟨_, T1, H1, hq, hl, fun ψ w a hw hf hn => wp_seq (wp_mono (hx ψ w a hw hf hn) ?_)⟩
    rintro e1 a1 w1 ⟨ψ1, rfl, r⟩; exact ⟨ψ1, rfl, r⟩
  | goto l =>
    refine ⟨_, T1, H1, hq, hl, fun ψ w a hw hf hn => wp_seq (wp_mono (hx ψ w a hw hf hn) ?_)⟩
    rintro e1 a1 w1 ⟨ψ1, rfl, r⟩; exact ⟨ψ1, rfl, r⟩
  | panic c =>
    refine ⟨_, T1, H1, hq, hl, fun ψ w a hw hf hn => wp_seq (wp_mono (hx ψ w a hw hf hn) ?_)⟩
    rintro e1 a1 w1 ⟨ψ1, rfl, r⟩; exact ⟨ψ1, rfl, r⟩
  | outgrown =>
    refine ⟨_, T1, H1, hq, hl, fun ψ w a hw hf hn => wp_seq (wp_mono (hx ψ w a hw hf hn) ?_)⟩
    rintro e1 a1 w1 ⟨ψ1, rfl, r⟩; exact ⟨ψ1, rfl, r⟩

def inBlk (id : Nat) (Q : Exit → AF → AH → Prop) : Exit → AF → AH → Prop
  | .exit id', T, H => if id' = id then Q .normal T H else Q (.exit id') T H
  | e, T, H => Q e T H

theorem CWp.block {P : Program} {id : Nat} {c : Code} {Q : Exit → AF → AH → Prop} {T : AF} {H : AH} (h : CWp P c (inBlk id Q) T H) : CWp P (.block id c) Q T H := by
  obtain ⟨e, T1, H1, hq, hl, hx⟩ := h
  cases e with
  | exit id' =>
    by_cases hid : id' = id
    · simp only [inBlk, hid, if_true] at hq
      refine ⟨.normal, T1, H1, hq, hl, fun ψ w a hw hf hn => wp_block (wp_mono (hx ψ w a hw hf hn) ?_)⟩
      rintro e1 a1 w1 ⟨ψ1, rfl, r⟩; simp only [Exit.inBlock, hid, if_true]; exact ⟨ψ1, trivial, r⟩
    · simp only [inBlk, hid, if_false] at hq
      refine ⟨.exit id', T1, H1, hq, hl, fun ψ w a hw hf hn => wp_block (wp_mono (hx ψ w a hw hf hn) ?_)⟩
      rintro e1 a1 w1 ⟨ψ1, rfl, r⟩; simp only [Exit.inBlock, hid, if_false]; exact ⟨ψ1, trivial, r⟩
  | normal =>
    refine ⟨_, T1, H1, hq, hl, fun ψ w a hw hf hn => wp_block (wp_mono (hx ψ w a hw hf hn) ?_)⟩
    rintro e1 a1 w1 ⟨ψ1, rfl, r⟩; exact ⟨ψ1, rfl, r⟩
  | ret =>
    refine ⟨_, T1, H1, hq, hl, fun ψ w a hw hf hn => wp_block (wp_mono (hx ψ w a hw hf hn) ?_)⟩
    rintro e1 a1 w1 ⟨ψ1, rfl, r⟩; exact ⟨ψ1, rfl, r⟩
  | goto l =>
    refine ⟨_, T1, H1, hq, hl, fun ψ w a hw hf hn => wp_block (wp_mono (hx ψ w a hw hf hn) ?_)⟩
    rintro e1 a1 w1 ⟨ψ1, rfl, r⟩; exact ⟨ψ1, rfl, r⟩
  | panic c =>
    refine ⟨_, T1, H1, hq, hl, fun ψ w a hw hf hn => wp_block (wp_mono (hx ψ w a hw hf hn) ?_)⟩
    rintro e1 a1 w1 ⟨ψ1, rfl, r⟩; exact ⟨ψ1, rfl, r⟩
  | outgrown =>
    refine ⟨_, T1, H1, hq, hl, fun ψ w a hw hf hn => wp_block (wp_mono (hx ψ w a hw hf hn) ?_)⟩
    rintro e1 a1 w1 ⟨ψ1, rfl, r⟩; exact ⟨ψ1, rfl, r⟩

/-- An operand's value, as far as it is known. -/
def AF.eval (T : AF) : Operand → Option Value
  | .tmp t => T.get t
  | .const (.bool b) => some (.bool b)
  | .const (.int k n) => some (.int k n)
  | .const (.string s) => some (.string s)
  | .const (.pointer none) => some (.pointer none)
  | .const (.slice none 0 0) => some (.slice none 0 0)
  | .const .nilFunc => some .nilFunc
  | .const .nilIface => some .nilIface
  | .func f => some (.func (.func f) #[] #[])
  | _ => none

theorem FR.eval {ψ : Emb} {T : AF} {a : Act} (h : FR ψ T a) {x : Operand} {v : Value} (e : T.eval x = some v) : VR ψ v (a.eval x) := by
  cases x with
  | tmp t => obtain ⟨v', h1, h2⟩ := h.2.2 t v e; simpa [Act.eval, h1] using h2
  | const u =>
    unfold AF.eval at e
    split at e <;> simp_all [Act.eval] <;> subst e <;> constructor
  | global g => simp [AF.eval] at e
  | func f => simp [AF.eval] at e; subst e; exact .func .nil .nil

theorem VR.bool_inv {ψ : Emb} {b : Bool} {v : Value} (h : VR ψ (.bool b) v) : v = .bool b := by cases h; rfl
theorem VR.int_inv {ψ : Emb} {k : IntKind} {b : Int} {v : Value} (h : VR ψ (.int k b) v) : v = .int k b := by cases h; rfl
theorem VR.string_inv {ψ : Emb} {b : ByteArray} {v : Value} (h : VR ψ (.string b) v) : v = .string b := by cases h; rfl

theorem CWp.cond {P : Program} {c : Operand} {x y : Code} {t : Bool} {Q : Exit → AF → AH → Prop} {T : AF} {H : AH} (hc : T.eval c = some (.bool t))
    (h : CWp P (if t then x else y) Q T H) : CWp P (.cond c x y) Q T H := by
  obtain ⟨e, T1, H1, hq, hl, hx⟩ := h
  exact ⟨e, T1, H1, hq, hl, fun ψ w a hw hf hn => wp_cond (hf.eval hc).bool_inv (hx ψ w a hw hf hn)⟩

/-- A loop from its round's head on. -/
def LEval (P : Program) (c : Code) (T : AF) (H : AH) (e : Exit) (T' : AF) (H' : AH) : Prop :=
  H.length ≤ H'.length ∧ ∀ (ψ : Emb) (w : World) (a : Act), WR ψ H w → FR ψ T a → (∀ id, H.length ≤ id → id < H'.length → ψ id = none) →
    ∀ (b : Frame) (k : List Item) (cs : List Frame), ∃ e1 a1 w1, (∃ ψ', e1 = e ∧ FR ψ' T' a1 ∧ Step ψ H w ψ' H' w1) ∧
      Arrives P (lone (b.at a (.code c :: .inLoop c :: k)) cs w) b k cs e1 a1 w1

/-- A loop, by what holds at a round's head. -/
theorem CWp.loop {P : Program} {c : Code} {Q : Exit → AF → AH → Prop} (I : Nat → AF → AH → Prop)
    (round : ∀ n T H, I n T H → CWp P c (thenQ (fun T' H' => ∃ m, m < n ∧ I m T' H') Q) T H) {n : Nat} {T : AF} {H : AH} (h0 : I n T H) : CWp P (.loop c) Q T H := by
  have key : ∀ n T H, I n T H → ∃ e T' H', Q e T' H' ∧ LEval P c T H e T' H' := by
    intro n
    induction n using Nat.strongRecOn with
    | _ n ih =>
      intro T H h0
      obtain ⟨e, T1, H1, hq, hl, hx⟩ := round n T H h0
      cases e with
      | normal =>
        obtain ⟨m, hm, hI⟩ := hq
        obtain ⟨e2, T2, H2, hq2, hl2, hy⟩ := ih m hm T1 H1 hI
        refine ⟨e2, T2, H2, hq2, Nat.le_trans hl hl2, fun ψ w a hw hf hn b k cs => ?_⟩
        obtain ⟨e1, a1, w1, ⟨ψ1, rfl, hf1, hs1⟩, harr⟩ := hx ψ w a hw hf (fun id p q => hn id p (by omega)) b (.inLoop c :: k) cs
        obtain ⟨e3, a3, w3, ⟨ψ3, rfl, hf3, hs3⟩, harr3⟩ := hy ψ1 w1 a1 hs1.wr hf1 (fun id p q => by rw [hs1.off id (.inr p)]; exact hn id (by omega) q) b k cs
        exact ⟨e3, a3, w3, ⟨ψ3, rfl, hf3, hs1.trans hs3⟩, .of_steps (Steps.trans harr (.one step_inLoop)) harr3⟩
      | exit id =>
        refine ⟨_, T1, H1, hq, hl, fun ψ w a hw hf hn b k cs => ?_⟩
        obtain ⟨e1, a1, w1, ⟨ψ1, rfl, r⟩, harr⟩ := hx ψ w a hw hf hn b (.inLoop c :: k) cs
        exact ⟨_, a1, w1, ⟨ψ1, rfl, r⟩, .pass (x := .inLoop c) rfl (fun _ _ => .inl (by simp)) harr⟩
      | goto l =>
        refine ⟨_, T1, H1, hq, hl, fun ψ w a hw hf hn b k cs => ?_⟩
        obtain ⟨e1, a1, w1, ⟨ψ1, rfl, r⟩, harr⟩ := hx ψ w a hw hf hn b (.inLoop c :: k) cs
        exact ⟨_, a1, w1, ⟨ψ1, rfl, r⟩, .pass (x := .inLoop c) rfl (fun _ _ => .inl (by simp)) harr⟩
      | ret =>
        refine ⟨_, T1, H1, hq, hl, fun ψ w a hw hf hn b k cs => ?_⟩
        obtain ⟨e1, a1, w1, ⟨ψ1, rfl, r⟩, harr⟩ := hx ψ w a hw hf hn b (.inLoop c :: k) cs
        exact ⟨_, a1, w1, ⟨ψ1, rfl, r⟩, .pass (x := .inLoop c) rfl (fun _ _ => .inl (by simp)) harr⟩
      | panic ch =>
        refine ⟨_, T1, H1, hq, hl, fun ψ w a hw hf hn b k cs => ?_⟩
        obtain ⟨e1, a1, w1, ⟨ψ1, rfl, r⟩, harr⟩ := hx ψ w a hw hf hn b (.inLoop c :: k) cs
        exact ⟨_, a1, w1, ⟨ψ1, rfl, r⟩, .pass (x := .inLoop c) rfl (fun _ _ => .inl (by simp)) harr⟩
      | outgrown =>
        refine ⟨_, T1, H1, hq, hl, fun ψ w a hw hf hn b k cs => ?_⟩
        obtain ⟨e1, a1, w1, ⟨ψ1, rfl, r⟩, harr⟩ := hx ψ w a hw hf hn b (.inLoop c :: k) cs
        exact ⟨_, a1, w1, ⟨ψ1, rfl, r⟩, .pass (x := .inLoop c) rfl (fun _ _ => .inl (by simp)) harr⟩
  obtain ⟨e, T', H', hq, hl, hx⟩ := key n T H h0
  refine ⟨e, T', H', hq, hl, fun ψ w a hw hf hn b k cs => ?_⟩
  obtain ⟨e1, a1, w1, r, harr⟩ := hx ψ w a hw hf hn b k cs
  exact ⟨e1, a1, w1, r, .of_steps (.one step_loop) harr⟩

/-- What is known of the frame may be forgotten. -/
theorem FR.sub {ψ : Emb} {T T' : AF} {a : Act} (h : FR ψ T a) (hn : T'.n ≤ T.n) (k : ∀ t v, T'.get t = some v → T.get t = some v) : FR ψ T' a := ⟨h.1, Nat.le_trans hn h.2.1, fun t v e => h.2.2 t v (k t v e)⟩

end Go.Proofs.YtaccaelocddakaaDoor
